/- stripe: Upto, Count; the law's awake. -/
import Derived.Test.YtoofhjhnfeamgaaStripe
namespace Go.Proofs.Ytoofhjhnfeamgaa
open Go.RowKit
set_option linter.unusedVariables false
set_option linter.unusedSimpArgs false

/-- is it one of the first q blocks, of the layers up to m? -/
def uptoB (n : Nat) (m : Int) (q : Nat) (x : Int) : Bool := decide (0 ≤ x ∧ x < q) && decide ((lyr n x.toNat : Int) ≤ m)
theorem uptoB_add (n : Nat) (m : Int) (q : Nat) (x : Int) (hq : q < 16384) : uptoB n m (q + 1) x = (uptoB n m q x || (decide ((lyr n q : Int) ≤ m) && (rightB q (q + 1) && (decide ((q : Int) ≤ x) && decide (x < (q : Int) + 1))))) := by
  have hr : rightB q (q + 1) = true := rightB_iff.2 ⟨by omega, by omega, by omega⟩
  rw [hr, Bool.true_and]
  unfold uptoB
  by_cases h1 : 0 ≤ x ∧ x < q
  · have h2 : 0 ≤ x ∧ x < ((q + 1 : Nat) : Int) := by omega
    have h3 : ¬ (q : Int) ≤ x := by omega
    rw [decide_eq_true h1, decide_eq_true h2, decide_eq_false h3]
    simp
  · rw [decide_eq_false h1]
    by_cases h2 : x = q
    · subst h2
      rw [decide_eq_true (show (0 : Int) ≤ q ∧ (q : Int) < ((q + 1 : Nat) : Int) by omega), decide_eq_true (show (q : Int) ≤ q by omega), decide_eq_true (show (q : Int) < (q : Int) + 1 by omega), Int.toNat_natCast]
      simp
    · rw [decide_eq_false (show ¬ (0 ≤ x ∧ x < ((q + 1 : Nat) : Int)) by omega)]
      by_cases h3 : (q : Int) ≤ x
      · rw [decide_eq_false (show ¬ x < (q : Int) + 1 by omega)]; simp
      · rw [decide_eq_false h3]; simp
/-- what Upto leaves -/
def UptoR (w w' : World) (e : Ending) (n : Nat) (m : Int) (q : Nat) : Prop := ∃ v l, e = .returned (.pointer (some ⟨w.heap.size, 0, none⟩)) ∧ SetAt w' w.heap.size v l (tot l) ∧ Good (-1) l ∧ (∀ x, cov l x = uptoB n m q x) ∧ (∀ g, v.ownBlock = some g → w.heap.size ≤ g) ∧ Below w.heap.size w w'
set_option maxRecDepth 100000 in
set_option maxHeartbeats 4000000 in
theorem upto_any (b s k n : Nat) (m : Int) (w : World) (h : PlanAt w b s k n) (hp : PlanOk s k n) :
    Calls Try.prog 21 #[.pointer (some ⟨b, 0, none⟩), .int .i64 m] w fun e w' => UptoR w w' e n m (nb s k) := by
  have HNW := Lib.hid (new_any w)
  have HBL := Lib.hid (fun w h => blocks_any b s k n w h hp)
  have HLY := Lib.hid (fun i w h => layer_any b s k n i w h hp.2.2.2)
  have HAD := Lib.hid @add_any
  have H := Lib.hid h
  have hl := nb_le hp.1 hp.2.1
  clear h hp
  generalize nb s k = z at *
  go_enter Try.func21, Try.ntmps21
  go_wp2_with fail
  refine HNW.out.mono ?_
  rintro e w1 ⟨rfl, h0, hb1⟩
  have H0 := Lib.hid h0
  have HB1 := Lib.hid hb1
  clear h0 hb1
  go_wp2_with fail
  refine (HBL.out w1 (H.out.below HB1.out)).mono ?_
  rintro e w2 ⟨rfl, hb2⟩
  have H2 := Lib.hid (H0.out.below hb2)
  have HB2 := Lib.hid (bmore HB1.out hb2 HB1.out.size)
  clear hb2
  go_wp2_with fail
  go_loopw [10] (fun i wr => ∃ (q : Nat) (v : Value) (l : List (Int × Int)), q ≤ z ∧ i = .int .i64 q ∧ Hid (SetAt wr w.heap.size v l (tot l)) ∧ Hid (Good (-1) l) ∧ Hid (∀ x, cov l x = uptoB n m q x) ∧ Hid (∀ g, v.ownBlock = some g → w.heap.size ≤ g) ∧ Hid (Below w.heap.size w wr)) (fun i _ => z - (intOf i).toNat)
  case atStart => exact ⟨0, _, [], by omega, rfl, H2, Lib.hid trivial, Lib.hid (fun x => by
    unfold uptoB
    rw [decide_eq_false (show ¬ (0 ≤ x ∧ x < ((0 : Nat) : Int)) by omega)]; rfl), Lib.hid (fun g hg => by cases hg), HB2⟩
  case round =>
    obtain ⟨q, v, l, hq, rfl, HS, HG, HC, HV, HB⟩ := hrel
    by_cases hqz : q < z
    · have i2 : (q : Int) < (z : Int) := by omega
      go_wp2_with fail
      refine (HLY.out q wr (H.out.below HB.out) (by omega)).mono ?_
      rintro e w3 ⟨rfl, rfl⟩
      by_cases hle : (lyr n q : Int) ≤ m
      · have HC2 : Hid (∀ x, uptoB n m (q + 1) x = (cov l x || (rightB q (q + 1) && (decide ((q : Int) ≤ x) && decide (x < (q : Int) + 1))))) := fun x => by
          rw [uptoB_add n m q x (by omega), HC.out, decide_eq_true hle, Bool.true_and]
        generalize lyr n q = y at *
        go_wp2_with fail
        refine (HAD.out _ v l q (q + 1) _ HS.out HG.out).mono ?_
        rintro e w4 ⟨v', l', ⟨g', c'⟩, rfl, hs, hv, hk⟩
        have HS4 := Lib.hid hs
        have HG4 := Lib.hid g'
        have HC4 : Hid (∀ x, cov l' x = uptoB n m (q + 1) x) := fun x => by rw [c', HC2.out]
        have HV4 : Hid (∀ g, v'.ownBlock = some g → w.heap.size ≤ g) := fun g hg => (hv g hg).elim (HV.out g) (fun h => Nat.le_trans HB.out.size h)
        have HB4 : Hid (Below w.heap.size w w4) := bkeep HB.out hk (Nat.le_refl _) (fun k hk => hk.elim (fun e => by omega) (HV.out k))
        clear hs g' c' hv hk
        generalize tot l' - tot l = T
        generalize (if rightB (q : Int) ((q : Int) + 1) = true then (0 : Int) else 11) = T2
        go_wp2
        go_roundw
        case rel => exact ⟨q + 1, v', l', by omega, by go_num, HS4, HG4, HC4, HV4, HB4⟩
        case measure => simp [intOf]; omega
      · have HC2 : Hid (∀ x, cov l x = uptoB n m (q + 1) x) := fun x => by
          rw [uptoB_add n m q x (by omega), HC.out, decide_eq_false hle, Bool.false_and, Bool.or_false]
        generalize lyr n q = y at *
        go_wp2
        go_roundw
        case rel => exact ⟨q + 1, v, l, by omega, by go_num, HS, HG, HC2, HV, HB⟩
        case measure => simp [intOf]; omega
    · obtain rfl : q = z := by omega
      go_wp2
      go_ret
      exact ⟨v, l, rfl, HS.out, HG.out, HC.out, HV.out, HB.out⟩
set_option maxRecDepth 100000 in
theorem count_any (b s k n : Nat) (m : Int) (w : World) (h : PlanAt w b s k n) (hp : PlanOk s k n) :
    Calls Try.prog 25 #[.pointer (some ⟨b, 0, none⟩), .int .i64 m] w fun e w' => (∃ l, e = .returned (.int .i64 (tot l)) ∧ Good (-1) l ∧ ∀ x, cov l x = uptoB n m (nb s k) x) ∧ Below w.heap.size w w' := by
  have HU := Lib.hid (upto_any b s k n m w h hp)
  have HLN := Lib.hid @len_any
  clear h hp
  go_enter Try.func25, Try.ntmps25
  go_wp2_with fail
  refine HU.out.mono ?_
  rintro e w1 ⟨v, l, rfl, hs, hg, hc, hv, hb⟩
  have HS := Lib.hid hs
  have HG := Lib.hid hg
  have HC := Lib.hid hc
  have HB := Lib.hid hb
  clear hs hg hc hv hb
  go_wp2_with fail
  refine (HLN.out _ _ _ _ w1 HS.out).mono ?_
  rintro e w2 ⟨rfl, rfl⟩
  go_wp2
  go_ret
  exact ⟨⟨l, rfl, HG.out, HC.out⟩, HB.out⟩
theorem upto_4 (x : Int) : cov [((0 : Int), (2 : Int)), (8, 10)] x = uptoB 4 1 10 x := by
  by_cases h : 0 ≤ x ∧ x < 10
  · rcases (by omega : x = 0 ∨ x = 1 ∨ x = 2 ∨ x = 3 ∨ x = 4 ∨ x = 5 ∨ x = 6 ∨ x = 7 ∨ x = 8 ∨ x = 9) with rfl | rfl | rfl | rfl | rfl | rfl | rfl | rfl | rfl | rfl <;> decide +kernel
  · unfold uptoB
    rw [decide_eq_false (show ¬ (0 ≤ x ∧ x < ((10 : Nat) : Int)) by omega), Bool.false_and, Bool.eq_false_iff]
    simp [cov]
    omega
set_option maxRecDepth 100000 in
set_option maxHeartbeats 4000000 in
theorem awake_any (w : World) : Calls Try.prog 10 #[] w fun e w' => e = .returned (.bool true) ∧ Below w.heap.size w w' := by
  have ok : PlanOk 100 10 4 := ⟨by omega, by omega, by omega, by omega, by omega⟩
  have HNW := Lib.hid (pnew_yes 100 10 4 w ok)
  have HNN := Lib.hid (fun w => pnew_no 1 0 1 w (by decide))
  have HBL := Lib.hid (fun b w h => blocks_any b 100 10 4 w h ok)
  have HLY := Lib.hid (fun b i w h => layerp_any b 100 10 4 i w h ok)
  have HCT := Lib.hid (fun b m w h => count_any b 100 10 4 m w h ok)
  rw [show nb 100 10 = 10 from rfl] at HBL HLY HCT
  clear ok
  go_enter Try.func10, Try.ntmps10
  go_wp2_with fail
  refine HNW.out.mono ?_
  rintro e w1 ⟨rfl, h0, hb1⟩
  have H0 := Lib.hid h0
  have HB1 := Lib.hid hb1
  clear h0 hb1
  go_wp2_with fail
  refine (HBL.out _ w1 H0.out).mono ?_
  rintro e w2 ⟨rfl, hb2⟩
  have H2 := Lib.hid (H0.out.below hb2)
  have HB2 := Lib.hid (bmore HB1.out hb2 HB1.out.size)
  clear hb2
  go_wp2_with fail
  go_loopw [25] (fun i wr => ∃ q : Nat, q ≤ 10 ∧ i = .int .i64 q ∧ Hid (PlanAt wr w.heap.size 100 10 4) ∧ Hid (Below w.heap.size w wr)) (fun i _ => 10 - (intOf i).toNat)
  case atStart => exact ⟨0, by omega, rfl, H2, HB2⟩
  case round =>
    obtain ⟨q, hq, rfl, HP, HB⟩ := hrel
    by_cases hqz : q < 10
    · have HY : Hid (∀ q : Nat, q < 10 → ∀ w b, PlanAt w b 100 10 4 → Calls Try.prog 16 #[.pointer (some ⟨b, 0, none⟩), .int .i64 q] w fun e w' => e = .returned (.tuple #[.int .i64 (lyr 4 q), .int .i64 0]) ∧ Below w.heap.size w w') := fun q hq w b h => by
        have := HLY.out b q w h
        rwa [if_pos (show (0 : Int) ≤ q ∧ (q : Int) < ((10 : Nat) : Int) by omega), Int.toNat_natCast] at this
      clear HLY HNW HBL HCT HNN
      rcases (by omega : q = 0 ∨ q = 1 ∨ q = 2 ∨ q = 3 ∨ q = 4 ∨ q = 5 ∨ q = 6 ∨ q = 7 ∨ q = 8 ∨ q = 9) with rfl | rfl | rfl | rfl | rfl | rfl | rfl | rfl | rfl | rfl
      · have ix : ∀ w, (Instr.index 54 (.agg #[.int .i64 0, .int .i64 1, .int .i64 2, .int .i64 2, .int .i64 3, .int .i64 3, .int .i64 3, .int .i64 3, .int .i64 0, .int .i64 1]) (.int .i64 0)).run Try.prog w = .ok (.int .i64 0) w := fun _ => by kernel_rfl
        go_wp2_with fail
        clear ix
        refine (HY.out 0 (by omega) wr _ HP.out).mono ?_
        rintro e w3 ⟨rfl, hb3⟩
        rw [show lyr 4 0 = 0 by decide +kernel]
        have HP3 := Lib.hid (HP.out.below hb3)
        have HB3 := Lib.hid (bmore HB.out hb3 HB.out.size)
        clear hb3
        go_wp2
        go_roundw
        case rel => exact ⟨1, by omega, by first | rfl | go_num, HP3, HB3⟩
        case measure => simp [intOf]
      · have ix : ∀ w, (Instr.index 54 (.agg #[.int .i64 0, .int .i64 1, .int .i64 2, .int .i64 2, .int .i64 3, .int .i64 3, .int .i64 3, .int .i64 3, .int .i64 0, .int .i64 1]) (.int .i64 1)).run Try.prog w = .ok (.int .i64 1) w := fun _ => by kernel_rfl
        go_wp2_with fail
        clear ix
        refine (HY.out 1 (by omega) wr _ HP.out).mono ?_
        rintro e w3 ⟨rfl, hb3⟩
        rw [show lyr 4 1 = 1 by decide +kernel]
        have HP3 := Lib.hid (HP.out.below hb3)
        have HB3 := Lib.hid (bmore HB.out hb3 HB.out.size)
        clear hb3
        go_wp2
        go_roundw
        case rel => exact ⟨2, by omega, by first | rfl | go_num, HP3, HB3⟩
        case measure => simp [intOf]
      · have ix : ∀ w, (Instr.index 54 (.agg #[.int .i64 0, .int .i64 1, .int .i64 2, .int .i64 2, .int .i64 3, .int .i64 3, .int .i64 3, .int .i64 3, .int .i64 0, .int .i64 1]) (.int .i64 2)).run Try.prog w = .ok (.int .i64 2) w := fun _ => by kernel_rfl
        go_wp2_with fail
        clear ix
        refine (HY.out 2 (by omega) wr _ HP.out).mono ?_
        rintro e w3 ⟨rfl, hb3⟩
        rw [show lyr 4 2 = 2 by decide +kernel]
        have HP3 := Lib.hid (HP.out.below hb3)
        have HB3 := Lib.hid (bmore HB.out hb3 HB.out.size)
        clear hb3
        go_wp2
        go_roundw
        case rel => exact ⟨3, by omega, by first | rfl | go_num, HP3, HB3⟩
        case measure => simp [intOf]
      · have ix : ∀ w, (Instr.index 54 (.agg #[.int .i64 0, .int .i64 1, .int .i64 2, .int .i64 2, .int .i64 3, .int .i64 3, .int .i64 3, .int .i64 3, .int .i64 0, .int .i64 1]) (.int .i64 3)).run Try.prog w = .ok (.int .i64 2) w := fun _ => by kernel_rfl
        go_wp2_with fail
        clear ix
        refine (HY.out 3 (by omega) wr _ HP.out).mono ?_
        rintro e w3 ⟨rfl, hb3⟩
        rw [show lyr 4 3 = 2 by decide +kernel]
        have HP3 := Lib.hid (HP.out.below hb3)
        have HB3 := Lib.hid (bmore HB.out hb3 HB.out.size)
        clear hb3
        go_wp2
        go_roundw
        case rel => exact ⟨4, by omega, by first | rfl | go_num, HP3, HB3⟩
        case measure => simp [intOf]
      · have ix : ∀ w, (Instr.index 54 (.agg #[.int .i64 0, .int .i64 1, .int .i64 2, .int .i64 2, .int .i64 3, .int .i64 3, .int .i64 3, .int .i64 3, .int .i64 0, .int .i64 1]) (.int .i64 4)).run Try.prog w = .ok (.int .i64 3) w := fun _ => by kernel_rfl
        go_wp2_with fail
        clear ix
        refine (HY.out 4 (by omega) wr _ HP.out).mono ?_
        rintro e w3 ⟨rfl, hb3⟩
        rw [show lyr 4 4 = 3 by decide +kernel]
        have HP3 := Lib.hid (HP.out.below hb3)
        have HB3 := Lib.hid (bmore HB.out hb3 HB.out.size)
        clear hb3
        go_wp2
        go_roundw
        case rel => exact ⟨5, by omega, by first | rfl | go_num, HP3, HB3⟩
        case measure => simp [intOf]
      · have ix : ∀ w, (Instr.index 54 (.agg #[.int .i64 0, .int .i64 1, .int .i64 2, .int .i64 2, .int .i64 3, .int .i64 3, .int .i64 3, .int .i64 3, .int .i64 0, .int .i64 1]) (.int .i64 5)).run Try.prog w = .ok (.int .i64 3) w := fun _ => by kernel_rfl
        go_wp2_with fail
        clear ix
        refine (HY.out 5 (by omega) wr _ HP.out).mono ?_
        rintro e w3 ⟨rfl, hb3⟩
        rw [show lyr 4 5 = 3 by decide +kernel]
        have HP3 := Lib.hid (HP.out.below hb3)
        have HB3 := Lib.hid (bmore HB.out hb3 HB.out.size)
        clear hb3
        go_wp2
        go_roundw
        case rel => exact ⟨6, by omega, by first | rfl | go_num, HP3, HB3⟩
        case measure => simp [intOf]
      · have ix : ∀ w, (Instr.index 54 (.agg #[.int .i64 0, .int .i64 1, .int .i64 2, .int .i64 2, .int .i64 3, .int .i64 3, .int .i64 3, .int .i64 3, .int .i64 0, .int .i64 1]) (.int .i64 6)).run Try.prog w = .ok (.int .i64 3) w := fun _ => by kernel_rfl
        go_wp2_with fail
        clear ix
        refine (HY.out 6 (by omega) wr _ HP.out).mono ?_
        rintro e w3 ⟨rfl, hb3⟩
        rw [show lyr 4 6 = 3 by decide +kernel]
        have HP3 := Lib.hid (HP.out.below hb3)
        have HB3 := Lib.hid (bmore HB.out hb3 HB.out.size)
        clear hb3
        go_wp2
        go_roundw
        case rel => exact ⟨7, by omega, by first | rfl | go_num, HP3, HB3⟩
        case measure => simp [intOf]
      · have ix : ∀ w, (Instr.index 54 (.agg #[.int .i64 0, .int .i64 1, .int .i64 2, .int .i64 2, .int .i64 3, .int .i64 3, .int .i64 3, .int .i64 3, .int .i64 0, .int .i64 1]) (.int .i64 7)).run Try.prog w = .ok (.int .i64 3) w := fun _ => by kernel_rfl
        go_wp2_with fail
        clear ix
        refine (HY.out 7 (by omega) wr _ HP.out).mono ?_
        rintro e w3 ⟨rfl, hb3⟩
        rw [show lyr 4 7 = 3 by decide +kernel]
        have HP3 := Lib.hid (HP.out.below hb3)
        have HB3 := Lib.hid (bmore HB.out hb3 HB.out.size)
        clear hb3
        go_wp2
        go_roundw
        case rel => exact ⟨8, by omega, by first | rfl | go_num, HP3, HB3⟩
        case measure => simp [intOf]
      · have ix : ∀ w, (Instr.index 54 (.agg #[.int .i64 0, .int .i64 1, .int .i64 2, .int .i64 2, .int .i64 3, .int .i64 3, .int .i64 3, .int .i64 3, .int .i64 0, .int .i64 1]) (.int .i64 8)).run Try.prog w = .ok (.int .i64 0) w := fun _ => by kernel_rfl
        go_wp2_with fail
        clear ix
        refine (HY.out 8 (by omega) wr _ HP.out).mono ?_
        rintro e w3 ⟨rfl, hb3⟩
        rw [show lyr 4 8 = 0 by decide +kernel]
        have HP3 := Lib.hid (HP.out.below hb3)
        have HB3 := Lib.hid (bmore HB.out hb3 HB.out.size)
        clear hb3
        go_wp2
        go_roundw
        case rel => exact ⟨9, by omega, by first | rfl | go_num, HP3, HB3⟩
        case measure => simp [intOf]
      · have ix : ∀ w, (Instr.index 54 (.agg #[.int .i64 0, .int .i64 1, .int .i64 2, .int .i64 2, .int .i64 3, .int .i64 3, .int .i64 3, .int .i64 3, .int .i64 0, .int .i64 1]) (.int .i64 9)).run Try.prog w = .ok (.int .i64 1) w := fun _ => by kernel_rfl
        go_wp2_with fail
        clear ix
        refine (HY.out 9 (by omega) wr _ HP.out).mono ?_
        rintro e w3 ⟨rfl, hb3⟩
        rw [show lyr 4 9 = 1 by decide +kernel]
        have HP3 := Lib.hid (HP.out.below hb3)
        have HB3 := Lib.hid (bmore HB.out hb3 HB.out.size)
        clear hb3
        go_wp2
        go_roundw
        case rel => exact ⟨10, by omega, by first | rfl | go_num, HP3, HB3⟩
        case measure => simp [intOf]
    · obtain rfl : q = 10 := by omega
      go_wp2_with fail
      refine (HNN.out _).mono ?_
      rintro e w3 ⟨rfl, rfl⟩
      go_wp2_with fail
      refine (HCT.out _ 1 _ HP.out).mono ?_
      rintro e w4 ⟨⟨l, rfl, hg, hc⟩, hb⟩
      obtain rfl : l = [(0, 2), (8, 10)] := good_uniq hg (show Good (-1) [((0 : Int), (2 : Int)), (8, 10)] by simp [Good]) (fun x => (hc x).trans (upto_4 x).symm)
      rw [show tot [((0 : Int), (2 : Int)), (8, 10)] = 4 by rfl]
      have HB4 := Lib.hid (bmore HB.out hb HB.out.size)
      clear hg hc hb
      go_wp2
      go_ret
      exact ⟨rfl, HB4.out⟩
end Go.Proofs.Ytoofhjhnfeamgaa
