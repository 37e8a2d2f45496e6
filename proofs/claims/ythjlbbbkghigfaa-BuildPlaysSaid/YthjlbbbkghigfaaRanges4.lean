/- ranges: Add. -/
import Derived.Test.YthjlbbbkghigfaaRanges3
namespace Go.Proofs.Ythjlbbbkghigfaa
open Go.RowKit
set_option linter.unusedVariables false
set_option linter.unusedSimpArgs false

theorem Good.len {lo : Int} : ∀ {l : List (Int × Int)}, Good lo l → (l.length : Int) ≤ 16384 - lo ∨ l = []
  | [], _ => .inr rfl
  | x :: r, g => by
    obtain ⟨h1, h2, h3, h4⟩ := g
    rcases Good.len h4 with h | rfl
    · left; simp; omega
    · left; simp; omega
theorem Good.len' {l : List (Int × Int)} (g : Good (-1) l) : l.length ≤ 16385 := by
  rcases g.len with h | rfl
  · omega
  · simp
/-- what Add makes of the stretches -/
def AddL (l : List (Int × Int)) (a c : Int) (l' : List (Int × Int)) : Prop := Good (-1) l' ∧ ∀ n, cov l' n = (cov l n || (rightB a c && (decide (a ≤ n) && decide (n < c))))
/-- what Add leaves -/
def AddR (w w' : World) (e : Ending) (b : Nat) (v : Value) (l : List (Int × Int)) (a c : Int) : Prop := ∃ v' l', AddL l a c l' ∧ e = .returned (.tuple #[.int .i64 (tot l' - tot l), .int .i64 (if rightB a c then 0 else 11)]) ∧ SetAt w' b v' l' (tot l') ∧ (∀ g, v'.ownBlock = some g → v.ownBlock = some g ∨ w.heap.size ≤ g) ∧ Keep (fun k => k = b ∨ v.ownBlock = some k) w w'
theorem AddR.same {w : World} {e : Ending} {b : Nat} {v : Value} {l : List (Int × Int)} {a c : Int} (h : SetAt w b v l (tot l)) (hg : Good (-1) l) (hn : rightB a c = true → c ≤ a) (he : e = .returned (.tuple #[.int .i64 0, .int .i64 (if rightB a c then 0 else 11)])) : AddR w w e b v l a c := by
  refine ⟨v, l, ⟨hg, fun n => ?_⟩, by rw [he, Int.sub_self], h, fun g hg => .inl hg, Keep.refl _ _⟩
  cases hr : rightB a c with
  | false => simp
  | true =>
    have := hn hr
    have e : (decide (a ≤ n) && decide (n < c)) = false := by
      rw [Bool.eq_false_iff]; simp; omega
    rw [e]; simp
set_option maxRecDepth 100000 in
theorem lay_one (b : Nat) (v : Value) (l : List (Int × Int)) (p q : Nat) (A B : Int) (w : World) (h : SetAt w b v l (tot l)) (hg : Good (-1) l) (hpq : p ≤ q) (hq : q ≤ l.length) (h0 : 0 ≤ A) (hAB : A ≤ B) (hB : B ≤ 16384) :
    Calls Try.prog 45 #[.pointer (some ⟨b, 0, none⟩), .int .i64 p, .int .i64 q, .slice (some ⟨w.heap.size, 0, none⟩) 1 1] (w.alloc (.cells #[.int .i64 A, .int .i64 B] 46)) fun e w' => LayR w w' e b v (rep l p q [(A, B)]) (tot l) (tot (rep l p q [(A, B)])) := by
  have hb := Blk.new w #[.int .i64 A, .int .i64 B] 46
  have hb0 := (Below.refl _ w).alloc (Nat.le_refl w.heap.size) (.cells #[.int .i64 A, .int .i64 B] 46)
  have hlt := h.str.lt
  have hln := hg.len'
  have hr : Reads (w.alloc (.cells #[.int .i64 A, .int .i64 B] 46)) 2 (.slice (some ⟨w.heap.size, 0, none⟩) 1 1) 1 ([(A, B)].flatMap pairCells) := by
    refine Reads.of_owns (base := 0) (e := 46) ⟨rfl, .inr ⟨w.heap.size, 1, _, rfl, Nat.zero_le _, hb, Nat.le_refl _, by decide, rfl, rfl⟩⟩
  have hc := lay_any b v l [(A, B)] p q 1 (some ⟨w.heap.size, 0, none⟩) 1 _ (h.below hb0) hg (by omega) hpq hq hr rfl (by omega) (fun g hgg _ => by cases hgg; exact Nat.ne_of_gt hlt) (fun x hx => by
    obtain rfl : x = (A, B) := by simpa using hx
    exact ⟨h0, hAB, hB⟩) (fun w2 h2 hk2 => ?_)
  · refine hc.mono ?_
    rintro e w2 ⟨v', he, hs, hv, hk⟩
    refine ⟨v', he, hs, fun g hg => (hv g hg).imp id (fun h => Nat.le_trans hb0.size h), ((Keep.none hb0).mono (fun _ _ h => h.elim)).trans hk (fun _ _ h => h)⟩
  · by_cases he : p = q
    · subst he
      exact replace_ins p w.heap.size v l (A, B) w2 h2.row (by omega) hq (hb.keep hk2 (by omega)) (fun hv => by have := (h.ne hv).2; omega)
    · exact replace_few p q 1 v l [(A, B)] _ _ w2 h2.row (by omega) (by omega) hq (by omega) (hr.keep hk2 (fun g hgg _ => by cases hgg; exact Nat.ne_of_gt hlt))
theorem LayR.add {w w0 w' : World} {e : Ending} {b : Nat} {v : Value} {l : List (Int × Int)} {a c A B : Int} {p q : Nat} (h : LayR w w' e b v (rep l p q [(A, B)]) (tot l) (tot (rep l p q [(A, B)]))) (hb : Below w0.heap.size w0 w) (hI : AddI l a c p q A B) (hg : Good (-1) l) (hac : a < c) (hr : rightB a c = true) (hend : ∀ x, l[q]? = some x → B < x.1) :
    ∃ T, e = .returned (.int .i64 T) ∧ AddR w0 w' (.returned (.tuple #[.int .i64 T, .int .i64 0])) b v l a c := by
  obtain ⟨v', rfl, hs, hv, hk⟩ := h
  obtain ⟨d1, d2⟩ := hI.done hg hac hend
  refine ⟨_, rfl, v', _, ⟨d1, fun n => by rw [d2, hr, Bool.true_and]⟩, by rw [hr]; rfl, hs, fun g hg => (hv g hg).imp id (fun h => Nat.le_trans hb.size h), ((Keep.none hb).mono (fun _ _ h => h.elim)).trans hk (fun _ _ h => h)⟩
set_option maxRecDepth 100000 in
set_option maxHeartbeats 4000000 in
theorem add_any (b : Nat) (v : Value) (l : List (Int × Int)) (a c : Int) (w : World) (h : SetAt w b v l (tot l)) (hg : Good (-1) l) :
    Calls Try.prog 29 #[.pointer (some ⟨b, 0, none⟩), .int .i64 a, .int .i64 c] w fun e w' => AddR w w' e b v l a c := by
  have HR := Lib.hid (right_any a c)
  cases hr : rightB a c with
  | false =>
    have HS := Lib.hid (AddR.same (e := .returned (.tuple #[.int .i64 0, .int .i64 11])) (a := a) (c := c) h hg (fun e => by rw [hr] at e; cases e) (by rw [hr]; rfl))
    rw [hr] at HR
    clear h hg hr
    go_enter Try.func29, Try.ntmps29
    go_wp2_with fail
    refine (HR.out _).mono ?_
    rintro e w1 ⟨rfl, rfl⟩
    go_wp2
    go_ret2
    exact HS.out
  | true =>
    obtain ⟨r0, r1, r2⟩ := rightB_iff.1 hr
    by_cases hac : a = c
    · subst hac
      have HS := Lib.hid (AddR.same (e := .returned (.tuple #[.int .i64 0, .int .i64 0])) (a := a) (c := a) h hg (fun e => Int.le_refl _) (by rw [hr]; rfl))
      rw [hr] at HR
      clear h hg hr
      go_enter Try.func29, Try.ntmps29
      go_wp2_with fail
      refine (HR.out _).mono ?_
      rintro e w1 ⟨rfl, rfl⟩
      go_wp2
      go_ret2
      exact HS.out
    · have hlt : a < c := by omega
      have hln := hg.len'
      have HF := Lib.hid (from_any b v l (tot l) a w h hg (by omega) (by omega))
      have HRT := Lib.hid hr
      rw [hr] at HR
      have HG := Lib.hid hg
      have H := Lib.hid h
      obtain ⟨s, k, rfl⟩ := h.slice
      obtain ⟨n, hnn⟩ : ∃ n, n = l.length := ⟨_, rfl⟩
      have HN := Lib.hid hnn
      rw [← hnn] at hln H
      clear h hg hr hnn
      go_enter Try.func29, Try.ntmps29
      go_wp2_with fail
      refine (HR.out _).mono ?_
      rintro e w1 ⟨rfl, rfl⟩
      go_wp2_with fail
      refine HF.out.mono ?_
      rintro e w1 ⟨p, hp, HP, rfl, hb1⟩
      have HB1 := Lib.hid hb1
      clear hb1
      go_wp2_with fail
      go_loopw [1, 2, 9] (fun x y i wr => ∃ (q : Nat) (A B : Int), q ≤ n ∧ x = .int .i64 A ∧ y = .int .i64 B ∧ i = .int .i64 q ∧ Hid (AddI l a c p q A B) ∧ Hid (Below w.heap.size w wr)) (fun _ _ i _ => n - (intOf i).toNat)
      case atStart => exact ⟨p, a, c, by have := HN.out; omega, rfl, rfl, rfl, Lib.hid (AddI.start (HP.out r0) hp r0 r1), HB1⟩
      case round =>
        obtain ⟨q, A, B, hqn, rfl, rfl, rfl, HI, HB⟩ := hrel
        have HSW := Lib.hid (H.out.below HB.out)
        obtain ⟨z0, z1⟩ := HSW.out.c
        by_cases hq : q < n
        · obtain ⟨x, hx⟩ : ∃ x, l[q]? = some x := ⟨_, List.getElem?_eq_getElem (by have := HN.out; omega)⟩
          obtain ⟨g, o, cc, he, y0, y1⟩ := HSW.out.rd.pair hx
          cases he
          have HX := Lib.hid hx
          have i1 : (0 : Int) ≤ (q : Int) := by omega
          have i2 : (q : Int) < (l.length : Int) := by omega
          have HB2 : Hid (Below w.heap.size w wr.drew) := ⟨HB.out.os, HB.out.tape, HB.out.output, HB.out.size, HB.out.block⟩
          clear hx
          by_cases hxb : x.1 ≤ B
          · have HI2 := Lib.hid (HI.out.next HG.out hlt (HP.out r0) HX.out hxb)
            go_wp2_with fail
            go_region
            go_wp2
            go_roundw
            case rel => exact ⟨q + 1, min A x.1, max B x.2, by omega, rfl, rfl, by go_num, HI2, HB2⟩
            case measure => simp [intOf]; omega
          · have HE := Lib.hid (lay_one b _ l p q A B wr HSW.out HG.out HI.out.pq HI.out.ql HI.out.a0 (by have := HI.out.aa; have := HI.out.bb; omega) HI.out.b1)
            go_wp2_with fail
            refine HE.out.mono ?_
            rintro e w2 hl
            obtain ⟨T, rfl, hx⟩ := hl.add HB.out HI.out HG.out hlt HRT.out (fun x' hx' => by rw [HX.out] at hx'; cases hx'; omega)
            have HA := Lib.hid hx
            clear hl hx
            go_wp2
            go_ret2
            exact HA.out
        · obtain rfl : q = n := by omega
          have t1 : ¬ ((q : Int) < (q : Int)) := by omega
          have HE := Lib.hid (lay_one b _ l p q A B wr HSW.out HG.out HI.out.pq HI.out.ql HI.out.a0 (by have := HI.out.aa; have := HI.out.bb; omega) HI.out.b1)
          go_wp2_with fail
          refine HE.out.mono ?_
          rintro e w2 hl
          obtain ⟨T, rfl, hx⟩ := hl.add HB.out HI.out HG.out hlt HRT.out (fun x' hx' => by have := (List.getElem?_eq_some_iff.1 hx').1; have := HN.out; omega)
          have HA := Lib.hid hx
          clear hl hx
          go_wp2
          go_ret2
          have hx := HA.out
          rw [HN.out] at hx
          exact hx
theorem AddL.eq {l l' m : List (Int × Int)} {a c : Int} (h : AddL l a c l') (gm : Good (-1) m) (hm : ∀ n, cov m n = (cov l n || (rightB a c && (decide (a ≤ n) && decide (n < c))))) : l' = m :=
  good_uniq h.1 gm (fun n => by rw [h.2, hm])
theorem AddR.at {w w' : World} {e : Ending} {b : Nat} {v : Value} {l m : List (Int × Int)} {a c : Int} (h : AddR w w' e b v l a c) (gm : Good (-1) m) (hm : ∀ n, cov m n = (cov l n || (rightB a c && (decide (a ≤ n) && decide (n < c))))) {B : Nat} {w0 : World} (hb : Below B w0 w) (hB : B ≤ w0.heap.size) (hbB : B ≤ b) (hv : ∀ g, v.ownBlock = some g → B ≤ g) :
    e = .returned (.tuple #[.int .i64 (tot m - tot l), .int .i64 (if rightB a c then 0 else 11)]) ∧ ∃ v', Hid (SetAt w' b v' m (tot m)) ∧ Hid (∀ g, v'.ownBlock = some g → B ≤ g) ∧ Hid (Below B w0 w') := by
  obtain ⟨v', l', hl, he, hs, hv', hk⟩ := h
  obtain rfl := hl.eq gm hm
  exact ⟨he, v', hs, fun g hg => (hv' g hg).elim (hv g) (fun h => Nat.le_trans hB (Nat.le_trans hb.size h)), bkeep hb hk hB (fun k hk => hk.elim (fun e => e ▸ hbB) (hv k))⟩
end Go.Proofs.Ythjlbbbkghigfaa
