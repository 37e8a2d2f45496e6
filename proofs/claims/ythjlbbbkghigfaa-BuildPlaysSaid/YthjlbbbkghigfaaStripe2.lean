/- stripe: Upto, Count; the law's awake. -/
import Derived.Test.YthjlbbbkghigfaaStripe
namespace Go.Proofs.Ythjlbbbkghigfaa
open Go.RowKit
set_option linter.unusedVariables false
set_option linter.unusedSimpArgs false

/-- is it one of the first q blocks, of the layers up to m? -/
def uptoB (n : Nat) (m : Int) (q : Nat) (x : Int) : Bool := decide (0 ≤ x ∧ x < q) && decide ((lyr n x.toNat : Int) ≤ m)
theorem uptoB_add (n : Nat) (m : Int) (q : Nat) (x : Int) (hq : q < 16384) : uptoB n m (q + 1) x = (uptoB n m q x || (decide ((lyr n q : Int) ≤ m) && (rightB q (q + 1) && (decide ((q : Int) ≤ x) && decide (x < (q : Int) + 1))))) := by
  have hr : rightB q (q + 1) = true := rightB_iff.2 ⟨by omega, by omega, by omega⟩
  rw [hr, Bool.true_and]
  unfold uptoB
  by_cases h1 : 0 ≤ x ∧ x < q
  · have h2 : 0 ≤ x ∧ x < ((q + 1 : Nat) : Int) := by omega
    have h3 : ¬ (q : Int) ≤ x := by omega
    rw [decide_eq_true h1, decide_eq_true h2, decide_eq_false h3]
    simp
  · rw [decide_eq_false h1]
    by_cases h2 : x = q
    · subst h2
      rw [decide_eq_true (show (0 : Int) ≤ q ∧ (q : Int) < ((q + 1 : Nat) : Int) by omega), decide_eq_true (show (q : Int) ≤ q by omega), decide_eq_true (show (q : Int) < (q : Int) + 1 by omega), Int.toNat_natCast]
      simp
    · rw [decide_eq_false (show ¬ (0 ≤ x ∧ x < ((q + 1 : Nat) : Int)) by omega)]
      by_cases h3 : (q : Int) ≤ x
      · rw [decide_eq_false (show ¬ x < (q : Int) + 1 by omega)]; simp
      · rw [decide_eq_false h3]; simp
/-- what Upto leaves -/
def UptoR (w w' : World) (e : Ending) (n : Nat) (m : Int) (q : Nat) : Prop := ∃ v l, e = .returned (.pointer (some ⟨w.heap.size, 0, none⟩)) ∧ SetAt w' w.heap.size v l (tot l) ∧ Good (-1) l ∧ (∀ x, cov l x = uptoB n m q x) ∧ (∀ g, v.ownBlock = some g → w.heap.size ≤ g) ∧ Below w.heap.size w w'
set_option maxRecDepth 100000 in
set_option maxHeartbeats 4000000 in
theorem upto_any (b s k n : Nat) (m : Int) (w : World) (h : PlanAt w b s k n) (hp : PlanOk s k n) :
    Calls Try.prog 32 #[.pointer (some ⟨b, 0, none⟩), .int .i64 m] w fun e w' => UptoR w w' e n m (nb s k) := by
  have HNW := Lib.hid (new_any w)
  have HBL := Lib.hid (fun w h => blocks_any b s k n w h hp)
  have HLY := Lib.hid (fun i w h => layer_any b s k n i w h hp.2.2.2)
  have HAD := Lib.hid @add_any
  have H := Lib.hid h
  have hl := nb_le hp.1 hp.2.1
  clear h hp
  generalize nb s k = z at *
  go_enter Try.func32, Try.ntmps32
  go_wp2_with fail
  refine HNW.out.mono ?_
  rintro e w1 ⟨rfl, h0, hb1⟩
  have H0 := Lib.hid h0
  have HB1 := Lib.hid hb1
  clear h0 hb1
  go_wp2_with fail
  refine (HBL.out w1 (H.out.below HB1.out)).mono ?_
  rintro e w2 ⟨rfl, hb2⟩
  have H2 := Lib.hid (H0.out.below hb2)
  have HB2 := Lib.hid (bmore HB1.out hb2 HB1.out.size)
  clear hb2
  go_wp2_with fail
  go_loopw [10] (fun i wr => ∃ (q : Nat) (v : Value) (l : List (Int × Int)), q ≤ z ∧ i = .int .i64 q ∧ Hid (SetAt wr w.heap.size v l (tot l)) ∧ Hid (Good (-1) l) ∧ Hid (∀ x, cov l x = uptoB n m q x) ∧ Hid (∀ g, v.ownBlock = some g → w.heap.size ≤ g) ∧ Hid (Below w.heap.size w wr)) (fun i _ => z - (intOf i).toNat)
  case atStart => exact ⟨0, _, [], by omega, rfl, H2, Lib.hid trivial, Lib.hid (fun x => by
    unfold uptoB
    rw [decide_eq_false (show ¬ (0 ≤ x ∧ x < ((0 : Nat) : Int)) by omega)]; rfl), Lib.hid (fun g hg => by cases hg), HB2⟩
  case round =>
    obtain ⟨q, v, l, hq, rfl, HS, HG, HC, HV, HB⟩ := hrel
    by_cases hqz : q < z
    · have i2 : (q : Int) < (z : Int) := by omega
      go_wp2_with fail
      refine (HLY.out q wr (H.out.below HB.out) (by omega)).mono ?_
      rintro e w3 ⟨rfl, rfl⟩
      by_cases hle : (lyr n q : Int) ≤ m
      · have HC2 : Hid (∀ x, uptoB n m (q + 1) x = (cov l x || (rightB q (q + 1) && (decide ((q : Int) ≤ x) && decide (x < (q : Int) + 1))))) := fun x => by
          rw [uptoB_add n m q x (by omega), HC.out, decide_eq_true hle, Bool.true_and]
        generalize lyr n q = y at *
        go_wp2_with fail
        refine (HAD.out _ v l q (q + 1) _ HS.out HG.out).mono ?_
        rintro e w4 ⟨v', l', ⟨g', c'⟩, rfl, hs, hv, hk⟩
        have HS4 := Lib.hid hs
        have HG4 := Lib.hid g'
        have HC4 : Hid (∀ x, cov l' x = uptoB n m (q + 1) x) := fun x => by rw [c', HC2.out]
        have HV4 : Hid (∀ g, v'.ownBlock = some g → w.heap.size ≤ g) := fun g hg => (hv g hg).elim (HV.out g) (fun h => Nat.le_trans HB.out.size h)
        have HB4 : Hid (Below w.heap.size w w4) := bkeep HB.out hk (Nat.le_refl _) (fun k hk => hk.elim (fun e => by omega) (HV.out k))
        clear hs g' c' hv hk
        generalize tot l' - tot l = T
        generalize (if rightB (q : Int) ((q : Int) + 1) = true then (0 : Int) else 11) = T2
        go_wp2
        go_roundw
        case rel => exact ⟨q + 1, v', l', by omega, by go_num, HS4, HG4, HC4, HV4, HB4⟩
        case measure => simp [intOf]; omega
      · have HC2 : Hid (∀ x, cov l x = uptoB n m (q + 1) x) := fun x => by
          rw [uptoB_add n m q x (by omega), HC.out, decide_eq_false hle, Bool.false_and, Bool.or_false]
        generalize lyr n q = y at *
        go_wp2
        go_roundw
        case rel => exact ⟨q + 1, v, l, by omega, by go_num, HS, HG, HC2, HV, HB⟩
        case measure => simp [intOf]; omega
    · obtain rfl : q = z := by omega
      go_wp2
      go_ret
      exact ⟨v, l, rfl, HS.out, HG.out, HC.out, HV.out, HB.out⟩
theorem upto_4 (x : Int) : cov [((0 : Int), (2 : Int)), (8, 10)] x = uptoB 4 1 10 x := by
  by_cases h : 0 ≤ x ∧ x < 10
  · rcases (by omega : x = 0 ∨ x = 1 ∨ x = 2 ∨ x = 3 ∨ x = 4 ∨ x = 5 ∨ x = 6 ∨ x = 7 ∨ x = 8 ∨ x = 9) with rfl | rfl | rfl | rfl | rfl | rfl | rfl | rfl | rfl | rfl <;> decide +kernel
  · unfold uptoB
    rw [decide_eq_false (show ¬ (0 ≤ x ∧ x < ((10 : Nat) : Int)) by omega), Bool.false_and, Bool.eq_false_iff]
    simp [cov]
    omega
end Go.Proofs.Ythjlbbbkghigfaa
