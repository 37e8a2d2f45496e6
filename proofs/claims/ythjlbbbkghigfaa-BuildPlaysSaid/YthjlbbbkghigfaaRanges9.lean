/- ranges: Replace as Cut calls it. -/
import Derived.Test.YthjlbbbkghigfaaPairRep2
import Derived.Test.YthjlbbbkghigfaaRanges4
import Derived.Test.YthjlbbbkghigfaaRgPlain3
namespace Go.Proofs.Ythjlbbbkghigfaa
open Go.RowKit
set_option linter.unusedVariables false
set_option linter.unusedSimpArgs false

set_option maxRecDepth 100000 in
/-- Insert of nothing -/
theorem insert_none (p n c : Nat) (A : Option Addr) (w : World) (hp : p ≤ n) (hnc : n ≤ c) (hA : A = none → n = 0 ∧ c = 0) (hA2 : ∀ a, A = some a → a.spot = none ∧ a.off = 0) :
    Calls Try.prog 52 #[.slice A n c, .int .i64 p, .slice none 0 0] w fun e w' => e = .returned (.slice A n c) ∧ w' = w := by
  have i1 : (0 : Int) ≤ (p : Int) := by omega
  have i2 : (p : Int) ≤ (n : Int) := by omega
  have i3 : (p : Int) ≤ (c : Int) := by omega
  cases A with
  | none =>
    obtain ⟨rfl, rfl⟩ := hA rfl
    obtain rfl : p = 0 := by omega
    clear hA hA2
    go_enter Try.func52, Try.ntmps52
    go_wp2
    go_ret
    exact ⟨rfl, rfl⟩
  | some a =>
    obtain ⟨g, o, sp⟩ := a
    obtain ⟨hsp, hof⟩ := hA2 _ rfl
    simp only at hsp hof
    subst hsp
    subst hof
    clear hA hA2
    by_cases hcp : c = p
    · obtain rfl : n = c := by omega
      subst hcp
      go_enter Try.func52, Try.ntmps52
      go_wp2
      go_ret
      exact ⟨rfl, rfl⟩
    · go_enter Try.func52, Try.ntmps52
      go_wp2
      go_ret
      exact ⟨rfl, rfl⟩
set_option maxRecDepth 100000 in
/-- Replace of nothing by nothing -/
theorem replace_none (p n c : Nat) (A : Option Addr) (w : World) (hp : p ≤ n) (hnc : n ≤ c) (hA : A = none → n = 0 ∧ c = 0) (hA2 : ∀ a, A = some a → a.spot = none ∧ a.off = 0) :
    Calls Try.prog 50 #[.slice A n c, .int .i64 p, .int .i64 p, .slice none 0 0] w fun e w' => e = .returned (.slice A n c) ∧ w' = w := by
  have HI := Lib.hid (insert_none p n c A w hp hnc hA hA2)
  have i1 : (0 : Int) ≤ (p : Int) := by omega
  have i2 : (p : Int) ≤ (n : Int) := by omega
  have i3 : (p : Int) ≤ (c : Int) := by omega
  have i4 : ((p : Int) == (p : Int)) = true := by simp
  cases A with
  | none =>
    obtain ⟨rfl, rfl⟩ := hA rfl
    obtain rfl : p = 0 := by omega
    clear hA hA2
    go_enter Try.func50, Try.ntmps50
    go_wp2_with fail
    refine HI.out.mono ?_
    rintro e w1 ⟨rfl, rfl⟩
    go_wp2
    go_ret
    exact ⟨rfl, rfl⟩
  | some a =>
    obtain ⟨g, o, sp⟩ := a
    obtain ⟨hsp, hof⟩ := hA2 _ rfl
    simp only at hsp hof
    subst hsp
    subst hof
    clear hA hA2
    by_cases hcp : c = p
    · obtain rfl : n = c := by omega
      subst hcp
      go_enter Try.func50, Try.ntmps50
      go_wp2_with fail
      refine HI.out.mono ?_
      rintro e w1 ⟨rfl, rfl⟩
      go_wp2
      go_ret
      exact ⟨rfl, rfl⟩
    · go_enter Try.func50, Try.ntmps50
      go_wp2_with fail
      refine HI.out.mono ?_
      rintro e w1 ⟨rfl, rfl⟩
      go_wp2
      go_ret
      exact ⟨rfl, rfl⟩
theorem ownsRow_shape {w : World} {base size n : Nat} {e : TypeId} {v : Value} {xs : List Value} (h : w.ownsRow base e size v n xs) : ∃ A c, v = .slice A n c ∧ n ≤ c ∧ (A = none → n = 0 ∧ c = 0) ∧ (∀ a, A = some a → a.spot = none ∧ a.off = 0) ∧ (∀ a, A = some a → ∃ g, A = some ⟨g, 0, none⟩) := by
  rcases h.2 with ⟨hv0, hz⟩ | ⟨g, cap, cur, hv0, hgb, hh, hnc, r⟩
  · subst hv0
    subst hz; exact ⟨none, 0, rfl, by omega, fun _ => ⟨by omega, rfl⟩, fun a ha => (by cases ha), fun a ha => (by cases ha)⟩
  · subst hv0
    exact ⟨some ⟨g, 0, none⟩, cap, rfl, hnc, fun ha => (by cases ha), fun a ha => by cases ha; exact ⟨rfl, rfl⟩, fun a ha => ⟨g, rfl⟩⟩
/-- Replace as Cut calls it -/
theorem replace_cut (p q m : Nat) (v : Value) (l new : List (Int × Int)) (nA : Option Addr) (nc : Nat) (w : World) (h : w.ownsRow 0 46 2 v l.length (l.flatMap pairCells)) (hn : l.length ≤ 100000) (hpq : p ≤ q) (hq : q ≤ l.length) (hm : p + m ≤ q ∨ (q = p + 1 ∧ m = 2))
    (hr : w.ownsRow 0 46 2 (.slice nA m nc) m (new.flatMap pairCells)) (hne : ∀ g, (Value.slice nA m nc).ownBlock = some g → v.ownBlock ≠ some g) (hz : p = q → nA = none ∧ nc = 0) :
    Calls Try.prog 50 #[v, .int .i64 p, .int .i64 q, .slice nA m nc] w fun e w' => RepR w w' e v (rep l p q new) := by
  have hnew : new.length = m := by have := hr.1; rw [flatMap_length pairCells_len] at this; omega
  by_cases he : p = q
  · subst he
    have hm0 : m = 0 := by omega
    subst hm0
    obtain rfl : new = [] := List.eq_nil_of_length_eq_zero hnew
    obtain ⟨A, c, rfl, h1, h2, h3, -⟩ := ownsRow_shape h
    obtain ⟨rfl, rfl⟩ := hz rfl
    refine (replace_none p l.length c A w hq h1 h2 h3).mono ?_
    rintro e w' ⟨rfl, rfl⟩
    have e0 : rep l p p [] = l := by unfold rep; simp
    rw [e0]
    exact ⟨A, c, rfl, h, Keep.refl _ _, fun g hg => .inl hg⟩
  · rcases hm with hm | ⟨rfl, rfl⟩
    · exact replace_few p q m v l new nA nc w h hn (by omega) hq hm (Reads.of_owns hr)
    · obtain ⟨A, c, rfl, h1, h2, h3, h4⟩ := ownsRow_shape h
      obtain ⟨A', c', e', h1', h2', h3', h4'⟩ := ownsRow_shape hr
      cases e'
      obtain ⟨g, rfl⟩ : ∃ g, A = some ⟨g, 0, none⟩ := by
        cases A with
        | none => have := h2 rfl; omega
        | some a => exact h4 a rfl
      obtain ⟨vb, rfl⟩ : ∃ g, nA = some ⟨g, 0, none⟩ := by
        cases nA with
        | none => have := h2' rfl; omega
        | some a => exact h4' a rfl
      obtain ⟨xs, -, hvb, -, -, hvs, -⟩ := ownsRow_cur hr
      have hgv : g ≠ vb := fun e => hne vb rfl (by rw [e]; rfl)
      have hl2 : (rep l p (p + 1) new).length = l.length + 1 := by rw [rep_len hq (by omega), hnew]; omega
      by_cases hend : p + 1 = l.length
      · have hx := replace_two_end 0 g l.length c p vb nc l new w rfl hend (by omega) (Nat.zero_le _) h (Reads.of_owns hr)
        rw [show (.int .i64 (l.length : Int) : Value) = .int .i64 ((p + 1 : Nat) : Int) by rw [hend]] at hx
        refine hx.mono ?_
        rintro e w' ⟨A2, c2, rfl, ho, hk, hg2⟩
        rw [hend]
        have hl3 : (rep l p l.length new).length = p + 2 := by rw [hend] at hl2; omega
        exact ⟨A2, c2, by rw [hl3], by rw [hl3]; exact ho, hk.mono (fun k _ h => by rw [h]; rfl), fun g' hg => (hg2 g' (by rw [hl3] at hg; exact hg)).imp (fun e => by rw [e]; rfl) id⟩
      · obtain ⟨r, hr'⟩ : ∃ r, p + 1 + (r + 1) = l.length := ⟨l.length - (p + 1) - 1, by omega⟩
        by_cases hroom : l.length + 1 ≤ c
        · refine (replace_two_room 0 g l.length c p (p + 1) r (l.length + 1) vb nc xs l new w rfl rfl hr' rfl hroom (by omega) h hvb (by omega) hgv (Reads.of_owns hr)).mono ?_
          rintro e w' ⟨rfl, ho, hk⟩
          exact ⟨some ⟨g, 0, none⟩, c, by rw [hl2], by rw [hl2]; exact ho, hk.mono (fun k _ h => by rw [h]; rfl), fun g' hg => .inl hg⟩
        · obtain rfl : c = l.length := by omega
          refine (replace_two_grow 0 g l.length p (p + 1) r (l.length + 1) vb nc l new w rfl rfl hr' rfl (by omega) (Nat.zero_le _) h (Reads.of_owns hr)).mono ?_
          rintro e w' ⟨G, c', hG, rfl, ho, hk⟩
          exact ⟨some ⟨G, 0, none⟩, c', by rw [hl2], by rw [hl2]; exact ho, Keep.ofBelowAll hk, fun g' hg => .inr (by cases hg; exact hG)⟩
end Go.Proofs.Ythjlbbbkghigfaa
