/- stripe: Next; the law StripeUpto. -/
import Derived.Test.YtoofhjhnfeamgaaStripeBlocks
import Derived.Test.YtoofhjhnfeamgaaRangesHas
namespace Go.Proofs.Ytoofhjhnfeamgaa
open Go.RowKit
set_option linter.unusedVariables false
set_option linter.unusedSimpArgs false

/-- the first block of layer m from f on, of the first z -/
def NextIs (n : Nat) (m f : Int) (z : Nat) (o : Option Nat) : Prop :=
  match o with
  | some i => i < z ∧ f ≤ i ∧ (lyr n i : Int) = m ∧ ∀ j : Nat, j < i → f ≤ j → (lyr n j : Int) ≠ m
  | none => ∀ j : Nat, j < z → f ≤ j → (lyr n j : Int) ≠ m
theorem NextIs.uniq {n : Nat} {m f : Int} {z : Nat} {o o' : Option Nat} (h : NextIs n m f z o) (h' : NextIs n m f z o') : o = o' := by
  cases o with
  | none =>
    cases o' with
    | none => rfl
    | some i => exact absurd h'.2.2.1 (h i h'.1 h'.2.1)
  | some i =>
    cases o' with
    | none => exact absurd h.2.2.1 (h' i h.1 h.2.1)
    | some j =>
      obtain ⟨a1, a2, a3, a4⟩ := h
      obtain ⟨b1, b2, b3, b4⟩ := h'
      rcases Nat.lt_trichotomy i j with h | h | h
      · exact absurd a3 (b4 i h a2)
      · rw [h]
      · exact absurd b3 (a4 j h b2)
def nextV : Option Nat → Value
  | some i => .tuple #[.int .i64 i, .bool true]
  | none => .tuple #[.int .i64 0, .bool false]
set_option maxRecDepth 100000 in
set_option maxHeartbeats 4000000 in
theorem next_any (b s k n : Nat) (m f : Int) (w : World) (h : PlanAt w b s k n) (hp : PlanOk s k n) :
    Calls Try.prog 23 #[.pointer (some ⟨b, 0, none⟩), .int .i64 m, .int .i64 f] w fun e w' => ∃ o, e = .returned (nextV o) ∧ NextIs n m f (nb s k) o ∧ Below w.heap.size w w' := by
  have HBL := Lib.hid (fun w h => blocks_any b s k n w h hp)
  have HLY := Lib.hid (fun i w h => layer_any b s k n i w h hp.2.2.2)
  have H := Lib.hid h
  have hl := nb_le hp.1 hp.2.1
  clear h hp
  generalize nb s k = z at *
  go_enter Try.func23, Try.ntmps23
  go_wp2_with fail
  go_loopw [8] (fun i wr => ∃ q : Int, 0 ≤ q ∧ f ≤ q ∧ i = .int .i64 q ∧ Hid (∀ j : Nat, (j : Int) < q → f ≤ j → (lyr n j : Int) ≠ m) ∧ Hid (Below w.heap.size w wr)) (fun i _ => z - (intOf i).toNat)
  case atStart => exact ⟨max f 0, by omega, by omega, by first | rfl | simp, Lib.hid (fun j h1 h2 => by omega), Lib.hid (Below.refl _ _)⟩
  case round =>
    obtain ⟨q, hq0, hqf, rfl, HN, HB⟩ := hrel
    by_cases hqz : q < z
    · obtain ⟨q', rfl⟩ := Int.eq_ofNat_of_zero_le hq0
      go_wp2_with fail
      refine (HBL.out wr (H.out.below HB.out)).mono ?_
      rintro e w2 ⟨rfl, hb2⟩
      have HB2 := Lib.hid (bmore HB.out hb2 HB.out.size)
      clear hb2
      go_wp2_with fail
      refine (HLY.out q' w2 (H.out.below HB2.out) (by omega)).mono ?_
      rintro e w3 ⟨rfl, rfl⟩
      by_cases he : (lyr n q' : Int) = m
      · have HX : Hid (NextIs n m f z (some q')) := ⟨by omega, hqf, he, fun j h1 h2 => HN.out j (by omega) h2⟩
        have t1 : ((lyr n q' : Int) == m) = true := by simp [he]
        clear he
        generalize lyr n q' = y at *
        go_wp2
        go_ret2
        exact ⟨some q', rfl, HX.out, HB2.out⟩
      · have HX : Hid (∀ j : Nat, (j : Int) < (q' : Int) + 1 → f ≤ j → (lyr n j : Int) ≠ m) := fun j h1 h2 => by
          by_cases hj : j = q'
          · rw [hj]; exact he
          · exact HN.out j (by omega) h2
        have t1 : ((lyr n q' : Int) == m) = false := by simp [he]
        clear he
        generalize lyr n q' = y at *
        go_wp2
        go_roundw
        case rel => exact ⟨(q' : Int) + 1, by omega, by omega, by go_num, HX, HB2⟩
        case measure => simp [intOf]; omega
    · go_wp2_with fail
      refine (HBL.out wr (H.out.below HB.out)).mono ?_
      rintro e w2 ⟨rfl, hb2⟩
      have HB2 := Lib.hid (bmore HB.out hb2 HB.out.size)
      have HX : Hid (NextIs n m f z none) := fun j h1 h2 => HN.out j (by omega) h2
      clear hb2
      go_wp2
      go_ret2
      exact ⟨none, rfl, HX.out, HB2.out⟩
/-- how many of the first q blocks are of the layers up to m -/
def cu (n : Nat) (m : Int) (q : Nat) : Nat := cnt 16384 (uptoB n m q)
theorem cu_add (n : Nat) (m : Int) (q : Nat) (hq : q < 16384) : cu n m (q + 1) = cu n m q + (if (lyr n q : Int) ≤ m then 1 else 0) := by
  unfold cu
  have e : cnt 16384 (uptoB n m (q + 1)) = cnt 16384 (fun x => uptoB n m q x || (decide ((lyr n q : Int) ≤ m) && (decide ((q : Int) ≤ x) && decide (x < (q : Int) + 1)))) := cnt_congr (fun i _ => by
    rw [uptoB_add n m q i hq, rightB_iff.2 ⟨by omega, by omega, by omega⟩, Bool.true_and])
  rw [e, cnt_or (fun i _ h => ?_)]
  · by_cases h : (lyr n q : Int) ≤ m
    · rw [if_pos h]
      have e2 : cnt 16384 (fun x => decide ((lyr n q : Int) ≤ m) && (decide ((q : Int) ≤ x) && decide (x < (q : Int) + 1))) = cnt 16384 (fun x => decide ((q : Int) ≤ x) && decide (x < (q : Int) + 1)) := cnt_congr (fun i _ => by rw [decide_eq_true h, Bool.true_and])
      rw [e2]
      have := cnt_int 16384 q ((q : Int) + 1) (by omega) (by omega)
      omega
    · rw [if_neg h]
      have e2 : cnt 16384 (fun x => decide ((lyr n q : Int) ≤ m) && (decide ((q : Int) ≤ x) && decide (x < (q : Int) + 1))) = 0 := by
        unfold cnt
        rw [List.countP_eq_zero]
        intro i _
        simp [h]
      rw [e2]
  · unfold uptoB at h
    have h := (Bool.and_eq_true _ _ ▸ h).1
    have h := of_decide_eq_true h
    rw [decide_eq_false (show ¬ (q : Int) ≤ (i : Int) by omega), Bool.false_and, Bool.and_false]
theorem cu_zero (n : Nat) (m : Int) : cu n m 0 = 0 := by
  unfold cu cnt
  rw [List.countP_eq_zero]
  intro i _
  unfold uptoB
  rw [decide_eq_false (show ¬ (0 ≤ (i : Int) ∧ (i : Int) < ((0 : Nat) : Int)) by omega), Bool.false_and]
  exact Bool.false_ne_true
theorem tot_cu {l : List (Int × Int)} {n : Nat} {m : Int} {z : Nat} (hg : Good (-1) l) (hc : ∀ x, cov l x = uptoB n m z x) : tot l = (cu n m z : Int) := by
  rw [tot_cnt hg (by omega)]
  unfold cu
  rw [cnt_congr (fun i _ => hc i)]
end Go.Proofs.Ytoofhjhnfeamgaa
