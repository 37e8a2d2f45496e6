/- stripe: Bytes; the law's plan; the reference. -/
import Derived.Test.YthjlbbbkghigfaaStripe2
namespace Go.Proofs.Ythjlbbbkghigfaa
open Go.RowKit
set_option linter.unusedVariables false
set_option linter.unusedSimpArgs false

theorem bl_half {r : Nat} (h : 0 < r) : bl r = bl (r / 2) + 1 := by
  unfold bl
  rw [if_neg (by omega), Nat.log2_def]
  by_cases h2 : 2 ≤ r
  · rw [if_pos h2, if_neg (by omega)]
  · rw [if_neg h2, if_pos (by omega)]
theorem pow_pred {j : Nat} (h : 1 ≤ j) : 2 ^ (j + 1 - 1) = 2 ^ (j - 1) * 2 := by
  rw [← Nat.pow_succ]; congr 1; omega
set_option maxRecDepth 100000 in
set_option maxHeartbeats 1000000 in
theorem reflayer_any (i n : Nat) (w : World) (hi : i ≤ 1000000) (hn : 1 ≤ n ∧ n ≤ 8) :
    Calls Try.prog 16 #[.int .i64 i, .int .i64 n] w fun e w' => e = .returned (.int .i64 (lyr n i)) ∧ w = w' := by
  have hlt := lyr_lt n i hn
  go_enter Try.func16, Try.ntmps16
  go_wp2_with fail
  go_loopw [5, 6] (fun p j wr => ∃ (q y : Nat), 1 ≤ q ∧ q ≤ n ∧ j = .int .i64 q ∧ p = .int .i64 y ∧ 1 ≤ y ∧ y ≤ 128 ∧ Hid (y = 2 ^ (q - 1)) ∧ Hid (wr = w)) (fun _ j _ => n - (intOf j).toNat)
  case atStart => exact ⟨1, 1, by omega, by omega, rfl, rfl, by omega, by omega, rfl, Lib.hid rfl⟩
  case round =>
    obtain ⟨q, y, hq1, hq2, rfl, rfl, hy1, hy2, HY, HW⟩ := hrel
    by_cases hqn : q < n
    · have HY2 : Hid (y * 2 = 2 ^ (q + 1 - 1)) := by show _ = _; rw [pow_pred hq1, HY.out]
      have hy3 : y * 2 ≤ 128 := by
        rw [HY2.out]
        show 2 ^ (q + 1 - 1) ≤ 2 ^ 7
        exact Nat.pow_le_pow_right (by omega) (by omega)
      have i1 : (q : Int) < (n : Int) := by omega
      go_wp2
      go_roundw
      case rel => exact ⟨q + 1, y * 2, by omega, by omega, by go_num, by go_num, by omega, hy3, HY2, HW⟩
      case measure => simp [intOf]; omega
    · obtain rfl : q = n := by omega
      have i1 : ¬ (q : Int) < (q : Int) := by omega
      have hm : (i : Int) % (y : Int) = ((i % y : Nat) : Int) := rfl
      have ht : (i : Int).tmod (y : Int) = ((i % y : Nat) : Int) := rfl
      have hy0 : (y : Int) ≠ 0 := by omega
      have HL : Hid (lyr q i = bl (i % y)) := by show _ = _; unfold lyr; rw [HY.out]
      have hly : i % y < 256 := by rw [HY.out]; exact hlt
      have HM := Lib.hid hm
      clear hlt hm ht
      go_wp2_with fail
      try rw [HM.out]
      obtain ⟨x, hx⟩ : ∃ x, x = i % y := ⟨_, rfl⟩
      rw [← hx] at hly HL ⊢
      go_loopw [7, 8] (fun r c wr => ∃ (a d : Nat), r = .int .i64 a ∧ c = .int .i64 d ∧ a ≤ 256 ∧ d ≤ 256 - a ∧ Hid (bl x = d + bl a) ∧ Hid (wr = w)) (fun r _ _ => (intOf r).toNat)
      case atStart => exact ⟨x, 0, by first | rfl | simp [hx], rfl, by omega, by omega, Lib.hid (Nat.zero_add _).symm, HW⟩
      case round =>
        obtain ⟨a, d, rfl, rfl, ha, hd, HA, HW2⟩ := hrel
        by_cases ha0 : 0 < a
        · have i1 : (0 : Int) < (a : Int) := by omega
          have HA2 : Hid (bl x = d + 1 + bl (a / 2)) := by show _ = _; rw [HA.out, bl_half ha0]; omega
          go_wp2
          go_roundw
          case rel => exact ⟨a / 2, d + 1, by go_num, by go_num, by omega, by omega, HA2, HW2⟩
          case measure => simp [intOf]; omega
        · obtain rfl : a = 0 := by omega
          go_wp2
          go_ret
          refine ⟨ret_int (a := d) ?_, HW2.out.symm⟩
          rw [HL.out, HA.out]; rfl
theorem mul_le' {i k : Nat} (hi : i ≤ 16384) (hk : k ≤ 64) : i * k ≤ 1048576 := Nat.mul_le_mul hi hk
set_option maxRecDepth 100000 in
set_option maxHeartbeats 1000000 in
theorem bytes_yes (b s k n i : Nat) (w : World) (h : PlanAt w b s k n) (hp : PlanOk s k n) (hi : i < nb s k) :
    Calls Try.prog 28 #[.pointer (some ⟨b, 0, none⟩), .int .i64 i] w fun e w' => e = .returned (.tuple #[.int .i64 ((i * k : Nat) : Int), .int .i64 (min ((i * k + k : Nat) : Int) s), .int .i64 0]) ∧ Below w.heap.size w w' := by
  have HB := Lib.hid (has_pl b s k n i w h hp)
  have H := Lib.hid h
  have hl := nb_le hp.1 hp.2.1
  rw [decide_eq_true (show (0 : Int) ≤ i ∧ (i : Int) < nb s k by omega)] at HB
  have m1 := mul_le' (i := i) (k := k) (by omega) hp.2.2.1
  have hk := hp.2.2.1
  have h2 := hp.2.1
  have h1 := hp.1
  clear h hp
  have e1 : (i : Int) * (k : Int) = ((i * k : Nat) : Int) := (Int.natCast_mul i k).symm
  have e2 : ((i : Int) + 1) * (k : Int) = ((i * k + k : Nat) : Int) := by rw [Int.add_mul, e1]; omega
  have E1 := Lib.hid e1
  have E2 := Lib.hid e2
  have w1 : wrap64 ((i : Int) * (k : Int)) = ((i * k : Nat) : Int) := by rw [e1]; unfold wrap64; omega
  have w2 : wrap64 (((i : Int) + 1) * (k : Int)) = ((i * k + k : Nat) : Int) := by rw [e2]; unfold wrap64; omega
  clear e1 e2
  generalize i * k = y at *
  go_enter Try.func28, Try.ntmps28
  go_wp2_with fail
  refine HB.out.mono ?_
  rintro e w3 ⟨rfl, hb⟩
  have HB3 := Lib.hid hb
  have HD : Hid (Below w.heap.size w w3.drew) := ⟨hb.os, hb.tape, hb.output, hb.size, hb.block⟩
  obtain ⟨c0, c1, c2⟩ := (H.out.below hb).c
  clear hb
  go_wp2_with fail
  go_region
  go_wp2
  go_ret3
  refine ⟨?_, HD.out⟩
  show Ending.returned (.tuple #[.int .i64 (wrap64 ((i : Int) * (k : Int))), .int .i64 (min ((y : Int) + (k : Int)) (s : Int)), .int .i64 0]) = _
  rw [w1]
  rfl
set_option maxRecDepth 100000 in
theorem bytes_no (b s k n : Nat) (i : Int) (w : World) (h : PlanAt w b s k n) (hp : PlanOk s k n) (hi : ¬ (0 ≤ i ∧ i < nb s k)) :
    Calls Try.prog 28 #[.pointer (some ⟨b, 0, none⟩), .int .i64 i] w fun e w' => e = .returned (.tuple #[.int .i64 0, .int .i64 0, .int .i64 11]) ∧ Below w.heap.size w w' := by
  have HB := Lib.hid (has_pl b s k n i w h hp)
  rw [decide_eq_false hi] at HB
  clear h hp hi
  go_enter Try.func28, Try.ntmps28
  go_wp2_with fail
  refine HB.out.mono ?_
  rintro e w3 ⟨rfl, hb⟩
  have HB3 := Lib.hid hb
  clear hb
  go_wp2
  go_ret3
  exact ⟨rfl, HB3.out⟩
end Go.Proofs.Ythjlbbbkghigfaa
