/- ranges: Add. -/
import Derived.Test.YthjlbbbkghigfaaRanges2
namespace Go.Proofs.Ythjlbbbkghigfaa
open Go.RowKit
set_option linter.unusedVariables false
set_option linter.unusedSimpArgs false

theorem rep_len {l new : List (Int × Int)} {p q : Nat} (hq : q ≤ l.length) (hp : p ≤ q) : (rep l p q new).length = p + new.length + (l.length - q) := by
  unfold rep; simp; omega
theorem rep_put {l : List (Int × Int)} {p : Nat} {x : Int × Int} : rep l p p [x] = put1 l p x := by unfold rep put1; simp
set_option maxRecDepth 100000 in
/-- Replace at one place: Insert -/
theorem replace_ins (p vb : Nat) (v : Value) (l : List (Int × Int)) (x : Int × Int) (w : World) (h : w.ownsRow 0 46 2 v l.length (l.flatMap pairCells)) (hn : l.length ≤ 100000) (hp : p ≤ l.length) (hv : Blk w vb (pairCells x).toArray 46) (hne : v.ownBlock ≠ some vb) :
    Calls Try.prog 50 #[v, .int .i64 p, .int .i64 p, .slice (some ⟨vb, 0, none⟩) 1 1] w fun e w' => RepR w w' e v (rep l p p [x]) := by
  have HI := Lib.hid (insert_pair 0 vb p v l x w pair_one hp (by omega) (Nat.zero_le _) h hv hne)
  obtain ⟨A, c, hsl⟩ := ownsRow_slice h
  have hl : (rep l p p [x]).length = l.length + 1 := by rw [rep_len hp (Nat.le_refl _)]; simp; omega
  have HL := Lib.hid hl
  obtain ⟨n, hnn⟩ : ∃ n, n = l.length := ⟨_, rfl⟩
  have HN := Lib.hid hnn
  rw [← hnn] at hsl hp HI
  have hnc : n ≤ c ∧ (A = none → n = 0 ∧ c = 0) ∧ ∀ a, A = some a → a.spot = none ∧ a.off = 0 := by
    rcases h.2 with ⟨hv0, hz⟩ | ⟨g, cap, cur, hv0, hgb, hh, hnc, r⟩
    · rw [hsl] at hv0; cases hv0; exact ⟨Nat.le_refl _, fun _ => ⟨rfl, rfl⟩, fun a ha => by cases ha⟩
    · rw [hsl] at hv0; cases hv0; exact ⟨by rw [hnn]; exact hnc, fun ha => (by cases ha), fun a ha => by cases ha; exact ⟨rfl, rfl⟩⟩
  obtain ⟨hnc, hA, hA2⟩ := hnc
  subst hsl
  have i1 : (0 : Int) ≤ (p : Int) := by omega
  have i2 : (p : Int) ≤ (n : Int) := by omega
  have i3 : (p : Int) ≤ (c : Int) := by omega
  have i4 : ((p : Int) == (p : Int)) = true := by simp
  have HPUT := Lib.hid (rep_put (l := l) (p := p) (x := x))
  cases A with
  | none =>
    obtain ⟨rfl, rfl⟩ := hA rfl
    obtain rfl : p = 0 := by omega
    clear h hv hnn hl hA hA2
    go_enter Try.func50, Try.ntmps50
    go_wp2_with fail
    refine HI.out.mono ?_
    rintro e w1 ⟨A1, c1, rfl, ho, hk, hno⟩
    have HO : Hid (RepR w w1 (.returned (.slice A1 (0 + 1) c1)) (.slice none 0 0) (rep l 0 0 [x])) := by
      refine ⟨A1, c1, by rw [HL.out, ← HN.out], ?_, hk, ?_⟩
      · rw [HL.out, HPUT.out, ← HN.out]; exact ho
      · rw [HL.out, ← HN.out]; exact hno
    clear ho hk hno
    go_wp2
    go_ret
    exact HO.out
  | some a =>
    obtain ⟨g, o, sp⟩ := a
    obtain ⟨hsp, hof⟩ := hA2 _ rfl
    simp only at hsp hof
    subst hsp
    subst hof
    clear h hv hnn hl hA hA2
    by_cases hcp : c = p
    · obtain rfl : n = c := by omega
      subst hcp
      go_enter Try.func50, Try.ntmps50
      go_wp2_with fail
      refine HI.out.mono ?_
      rintro e w1 ⟨A1, c1, rfl, ho, hk, hno⟩
      have HO : Hid (RepR w w1 (.returned (.slice A1 (n + 1) c1)) (.slice (some ⟨g, 0, none⟩) n n) (rep l n n [x])) := by
        refine ⟨A1, c1, by rw [HL.out, ← HN.out], ?_, hk, ?_⟩
        · rw [HL.out, HPUT.out, ← HN.out]; exact ho
        · rw [HL.out, ← HN.out]; exact hno
      clear ho hk hno
      go_wp2
      go_ret
      exact HO.out
    · go_enter Try.func50, Try.ntmps50
      go_wp2_with fail
      refine HI.out.mono ?_
      rintro e w1 ⟨A1, c1, rfl, ho, hk, hno⟩
      have HO : Hid (RepR w w1 (.returned (.slice A1 (n + 1) c1)) (.slice (some ⟨g, 0, none⟩) n c) (rep l p p [x])) := by
        refine ⟨A1, c1, by rw [HL.out, ← HN.out], ?_, hk, ?_⟩
        · rw [HL.out, HPUT.out, ← HN.out]; exact ho
        · rw [HL.out, ← HN.out]; exact hno
      clear ho hk hno
      go_wp2
      go_ret
      exact HO.out
/-- Replace of no less by what is not more -/
theorem replace_few (p q m : Nat) (v : Value) (l new : List (Int × Int)) (nA : Option Addr) (nc : Nat) (w : World) (h : w.ownsRow 0 46 2 v l.length (l.flatMap pairCells)) (hn : l.length ≤ 100000) (hpq : p < q) (hq : q ≤ l.length) (hm : p + m ≤ q) (hr : Reads w 2 (.slice nA m nc) m (new.flatMap pairCells)) :
    Calls Try.prog 50 #[v, .int .i64 p, .int .i64 q, .slice nA m nc] w fun e w' => RepR w w' e v (rep l p q new) := by
  have hnew : new.length = m := by have := hr.len; rw [flatMap_length pairCells_len] at this; omega
  have hl := rep_len (new := new) hq (Nat.le_of_lt hpq)
  rw [hnew] at hl
  rcases h.2 with ⟨hv, hz⟩ | ⟨g, cap, cur, hv, -⟩
  · omega
  subst hv
  by_cases hql : q = l.length
  · have hc := replace_end 0 g l.length cap p m l new nA nc w rfl (by omega) (by omega) (by omega) h hr
    subst hql
    refine hc.mono ?_
    rintro e w' ⟨rfl, ho, hk⟩
    have hl2 : (rep l p l.length new).length = p + m := by omega
    refine ⟨some ⟨g, 0, none⟩, cap, by rw [hl2], by rw [hl2]; exact ho, hk.mono (fun k _ h => by rw [h]; rfl), fun g' hg => .inl ?_⟩
    cases hg; rfl
  · obtain ⟨r, hr'⟩ : ∃ r, q + (r + 1) = l.length := ⟨l.length - q - 1, by omega⟩
    have hc := replace_mid 0 g l.length cap p q m r l new nA nc w rfl hpq hr' hm (by omega) h hr
    refine hc.mono ?_
    rintro e w' ⟨rfl, ho, hk⟩
    have hl2 : (rep l p q new).length = p + m + (r + 1) := by omega
    refine ⟨some ⟨g, 0, none⟩, cap, by rw [hl2], by rw [hl2]; exact ho, hk.mono (fun k _ h => by rw [h]; rfl), fun g' hg => .inl ?_⟩
    cases hg; rfl
end Go.Proofs.Ythjlbbbkghigfaa
