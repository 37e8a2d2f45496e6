/- marks: the law MarksPlays, of any case. -/
import Derived.Test.YtmiholjmagobhaaMarksPlays
namespace Go.Proofs.Ytmiholjmagobhaa
open Go.RowKit
set_option linter.unusedVariables false
set_option linter.unusedSimpArgs false

set_option maxRecDepth 100000 in
set_option maxHeartbeats 1000000 in
theorem marksPlays_any (first longest fresh : Int) (v : Value) (ops : List OpD) (w : World) (h : CaseOk w v ops) :
    Calls Try.prog 5 #[.agg #[.int .i64 first, .int .i64 longest, .int .i64 fresh, v]] w fun e w' => e = .returned (.bool true) ∧ Below w.heap.size w w' := by
  obtain ⟨A, k0, rfl, -⟩ := h.reads.val
  by_cases hok : NewOk first longest fresh
  · by_cases hli : (lightN ops : Int) ≤ 200
    · exact plays_yes first longest fresh A k0 ops w h hok hli
    · have hz := (Below.refl w.heap.size w).alloc (Nat.le_refl _) (.cells #[.int .i64 first, .int .i64 longest, .int .i64 fresh, .slice A ops.length k0] 39)
      have hzs : w.heap.size ≤ (w.alloc (.cells #[.int .i64 first, .int .i64 longest, .int .i64 fresh, .slice A ops.length k0] 39)).heap.size := by simp
      have hZ := Blk.new w #[.int .i64 first, .int .i64 longest, .int .i64 fresh, .slice A ops.length k0] 39
      have hcz := h.below hz
      have HRT := Lib.hid (fun w => right_yes first longest fresh A ops.length k0 w hok)
      have HLI : Hid (∀ w, CaseOk w (.slice A ops.length k0) ops → Calls Try.prog 15 #[.agg #[.int .i64 first, .int .i64 longest, .int .i64 fresh, .slice A ops.length k0]] w fun e w' => e = .returned (.bool false) ∧ Below w.heap.size w w') := fun w hw => by
        have := light_any first longest fresh _ ops w hw
        rw [decide_eq_false hli] at this
        exact this
      clear hli hok h
      go_enter Try.func5, Try.ntmps5
      go_wp2_with fail
      generalize w.alloc (.cells #[.int .i64 first, .int .i64 longest, .int .i64 fresh, .slice A ops.length k0] 39) = wz at *
      refine (HRT.out _).mono ?_
      rintro e w1 ⟨rfl, hb1⟩
      obtain ⟨z0, z1, z2, z3⟩ := blk4 (hZ.below hb1)
      go_wp2_with fail
      refine (HLI.out _ (hcz.below hb1)).mono ?_
      rintro e w2 ⟨rfl, hb2⟩
      have q2 := bmore hb1 hb2 hb1.size
      go_wp2_with fail
      refine (awake23 _).mono ?_
      rintro e w7 ⟨rfl, hb7⟩
      go_wp2
      go_ret
      exact ⟨rfl, bmore hz (bmore q2 hb7 q2.size) hzs⟩
  · have hz := (Below.refl w.heap.size w).alloc (Nat.le_refl _) (.cells #[.int .i64 first, .int .i64 longest, .int .i64 fresh, .slice A ops.length k0] 39)
    have hzs : w.heap.size ≤ (w.alloc (.cells #[.int .i64 first, .int .i64 longest, .int .i64 fresh, .slice A ops.length k0] 39)).heap.size := by simp
    have hZ := Blk.new w #[.int .i64 first, .int .i64 longest, .int .i64 fresh, .slice A ops.length k0] 39
    have HRT := Lib.hid (fun w => right_no first longest fresh A ops.length k0 w hok)
    clear hok h
    go_enter Try.func5, Try.ntmps5
    go_wp2_with fail
    generalize w.alloc (.cells #[.int .i64 first, .int .i64 longest, .int .i64 fresh, .slice A ops.length k0] 39) = wz at *
    refine (HRT.out _).mono ?_
    rintro e w1 ⟨rfl, hb1⟩
    go_wp2_with fail
    refine (awake23 _).mono ?_
    rintro e w7 ⟨rfl, hb7⟩
    go_wp2
    go_ret
    exact ⟨rfl, bmore hz (bmore hb1 hb7 hb1.size) hzs⟩
end Go.Proofs.Ytmiholjmagobhaa
