/- marks: the reference: New, Mark. -/
import Derived.Test.YtmiholjmagobhaaMarksRef2
import Derived.Lib.Hide
namespace Go.Proofs.Ytmiholjmagobhaa
open Go.RowKit
set_option linter.unusedVariables false
set_option linter.unusedSimpArgs false

theorem st_part_set (first longest fresh : Int) {k : Nat} (h : k < 8) : (stC (Cho.part first longest fresh k)).setIfInBounds (1 + k) (.int .i64 first) = stC (Cho.part first longest fresh (k + 1)) := by
  rcases k with _|_|_|_|_|_|_|_|k <;> first | rfl | omega
theorem st_part_all (first longest fresh : Int) : stC (Cho.part first longest fresh 8) = stC (Cho.fresh0 first longest fresh) := rfl
set_option maxRecDepth 100000 in
set_option maxHeartbeats 400000 in
theorem refnew_any (first longest fresh : Int) (w : World) :
    Calls Try.prog 16 #[.int .i64 first, .int .i64 longest, .int .i64 fresh] w fun e w' => e = .returned (.agg (stC (Cho.fresh0 first longest fresh))) ∧ Below w.heap.size w w' := by
  have hc0 : stC (Cho.part first longest fresh 0) = #[.int .i64 (-1), .int .i64 0, .int .i64 0, .int .i64 0, .int .i64 0, .int .i64 0, .int .i64 0, .int .i64 0, .int .i64 0, .int .i64 0, .int .i64 0, .int .i64 0, .int .i64 0, .int .i64 0, .int .i64 0, .int .i64 0, .int .i64 0, .int .i64 0, .int .i64 0, .int .i64 0, .int .i64 0, .int .i64 0, .int .i64 0, .int .i64 0, .int .i64 0, .int .i64 longest, .int .i64 fresh] := rfl
  have HC0 := Lib.hid hc0
  have HBX := Lib.hid (boxes2 w zC zC 42)
  clear hc0
  go_enter Try.func16, Try.ntmps16
  go_wp2_with (refine wpList_storeS rfl _ _ rfl _ rfl (Cho.part first longest fresh 0) (by exact congrArg Value.agg HC0.out.symm) zC (by exact HBX.out.2.1) zC_size ?_; rintro wz HB7 HK7)
  have HB6 : Hid (Blk wz w.heap.size zC 42) := (show Blk ((w.alloc (.cells zC 42)).alloc (.cells zC 42)) w.heap.size zC 42 from HBX.out.1).keep HK7.out (by omega)
  have HLZ : Hid (Below w.heap.size w wz) := bkeep (show Below w.heap.size w ((w.alloc (.cells zC 42)).alloc (.cells zC 42)) from HBX.out.2.2.1) HK7.out (Nat.le_refl _) (fun q h => by omega)
  go_loopw [8] (fun i wr => ∃ k : Nat, k ≤ 8 ∧ i = .int .i64 k ∧ Hid (Blk wr w.heap.size zC 42) ∧ Hid (Blk wr (w.heap.size + 1) (stC (Cho.part first longest fresh k)) 42) ∧ Hid (Below w.heap.size w wr)) (fun i _ => 8 - (intOf i).toNat)
  case atStart => exact ⟨0, by omega, rfl, HB6, HB7, HLZ⟩
  case round =>
    obtain ⟨k, hk, rfl, HX6, HX7, HB⟩ := hrel
    by_cases hlt : k < 8
    · have hc := HX7.out.cell (1 + k) (st_wait _ hlt)
      have hf := HX7.out.frozen (1 + k)
      obtain ⟨t, ht⟩ : ∃ t, t = (Cho.part first longest fresh k).wait k := ⟨_, rfl⟩
      rw [← ht] at hc
      have i8 : (k : Int) < 8 := by omega
      have H6 : Hid (Blk (wr.setCell ⟨w.heap.size + 1, 1 + k, none⟩ (.int .i64 first)) w.heap.size zC 42) := HX6.out.setOther (by simp) _
      have H7 : Hid (Blk (wr.setCell ⟨w.heap.size + 1, 1 + k, none⟩ (.int .i64 first)) (w.heap.size + 1) (stC (Cho.part first longest fresh (k + 1))) 42) := HX7.out.set' (st_part_set _ _ _ hlt)
      have H8 : Hid (Below w.heap.size w (wr.setCell ⟨w.heap.size + 1, 1 + k, none⟩ (.int .i64 first))) := HB.out.setCell (p := ⟨w.heap.size + 1, 1 + k, none⟩) (Nat.le_succ _) _
      clear ht
      go_wp2
      go_roundw
      case rel => exact ⟨k + 1, by omega, by go_num, H6, H7, H8⟩
      case measure => simp [intOf]; omega
    · obtain rfl : k = 8 := by omega
      have h7 := HX7.out
      rw [st_part_all] at h7
      have H7 := Lib.hid h7
      clear h7 HX7
      go_wp2_with (first
        | (refine wpList_loadS rfl _ rfl _ rfl (Cho.fresh0 first longest fresh) H7.out ?_)
        | (refine wpList_storeS rfl _ _ rfl _ rfl (Cho.fresh0 first longest fresh) rfl zC HX6.out zC_size ?_; rintro w9 HB9 HK9))
      have HF := Lib.hid (bkeep HB.out HK9.out (Nat.le_refl _) (fun q h => by omega))
      have hr := run_loadVar_row (P := Try.prog) w9 w.heap.size _ _ _ (0, 0) _ HB9.out Try.underlying42 rfl info_st

      exact bodyPost_ret (v := .agg (stC (Cho.fresh0 first longest fresh))) (by simp [results, Try.f16, Act.put, asAddr, hr]) rfl ⟨rfl, HF.out⟩
end Go.Proofs.Ytmiholjmagobhaa
