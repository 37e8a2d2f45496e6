/- marks: the laws New, Fails, Due are walked. -/
import Derived.Test.YtmiholjmagobhaaMarksAwake
namespace Go.Proofs.Ytmiholjmagobhaa
open Go.RowKit
set_option linter.unusedVariables false
set_option linter.unusedSimpArgs false

set_option maxRecDepth 100000 in
set_option maxHeartbeats 1000000 in
theorem right_yes (first longest fresh : Int) (A : Option Addr) (n k : Nat) (w : World) (h : NewOk first longest fresh) :
    Calls Try.prog 14 #[.agg #[.int .i64 first, .int .i64 longest, .int .i64 fresh, .slice A n k]] w fun e w' => e = .returned (.bool true) ∧ Below w.heap.size w w' := by
  obtain ⟨g1, g2, g3, g4, g5, g6⟩ := h
  have hc : Blk (w.alloc (.cells #[.int .i64 first, .int .i64 longest, .int .i64 fresh, .slice A n k] 39)) w.heap.size #[.int .i64 first, .int .i64 longest, .int .i64 fresh, .slice A n k] 39 := Blk.new _ _ _
  go_enter Try.func14, Try.ntmps14
  go_wp2
  go_ret
  exact ⟨rfl, (Below.refl _ _).alloc (Nat.le_refl _) _⟩

set_option maxRecDepth 100000 in
set_option maxHeartbeats 1000000 in
theorem right_no (first longest fresh : Int) (A : Option Addr) (n k : Nat) (w : World) (h : ¬ NewOk first longest fresh) :
    Calls Try.prog 14 #[.agg #[.int .i64 first, .int .i64 longest, .int .i64 fresh, .slice A n k]] w fun e w' => e = .returned (.bool false) ∧ Below w.heap.size w w' := by
  unfold NewOk at h
  rcases (by omega : first < 1 ∨ (1 ≤ first ∧ 65536 < first) ∨ (1 ≤ first ∧ first ≤ 65536 ∧ longest < first) ∨ (1 ≤ first ∧ first ≤ 65536 ∧ first ≤ longest ∧ 1048576 < longest) ∨ (1 ≤ first ∧ first ≤ 65536 ∧ first ≤ longest ∧ longest ≤ 1048576 ∧ fresh < 0) ∨ (1 ≤ first ∧ first ≤ 65536 ∧ first ≤ longest ∧ longest ≤ 1048576 ∧ 0 ≤ fresh ∧ 1048576 < fresh)) with
    g1 | ⟨g1, g2⟩ | ⟨g1, g2, g3⟩ | ⟨g1, g2, g3, g4⟩ | ⟨g1, g2, g3, g4, g5⟩ | ⟨g1, g2, g3, g4, g5, g6⟩
  all_goals
    clear h
    go_enter Try.func14, Try.ntmps14
    go_wp2
    go_ret
    exact ⟨by first | rfl | exact ret_bool (by simp; omega), (Below.refl _ _).alloc (Nat.le_refl _) _⟩

set_option maxRecDepth 100000 in
set_option maxHeartbeats 2000000 in
theorem marksNew_any (first longest fresh : Int) (w : World) :
    Calls Try.prog 7 #[.int .i64 first, .int .i64 longest, .int .i64 fresh] w fun e w' => e = .returned (.bool true) ∧ Below w.heap.size w w' := by
  by_cases h : NewOk first longest fresh
  · have hn := new_yes first longest fresh w h
    have o0 := fresh0_ok h
    have hr := fun A n k w => right_yes first longest fresh A n k w h
    have HR := Lib.hid hr
    have hlv : (Cho.fresh0 first longest fresh).level = -1 := rfl
    have hst : (Cho.fresh0 first longest fresh).steps.length = 0 := rfl
    have hmk : (Cho.fresh0 first longest fresh).mark 0 [1] 5 5 = (Cho.fresh0 first longest fresh, 0) := by simp [Cho.mark, Cho.fresh0]
    generalize Cho.fresh0 first longest fresh = c at *
    have HL := Lib.hid hlv
    have HS := Lib.hid hst
    have HM := Lib.hid hmk
    clear hr hlv hst hmk
    go_enter Try.func7, Try.ntmps7
    go_wp2_with fail
    refine hn.mono ?_
    rintro e w1 ⟨b, rfl, h1, hb1⟩
    replace h1 : ChoAt w1 (fun k => w.heap.size ≤ k) b c := h1.mono (fun k hk => hk.1)
    clear hn
    go_wp2_with fail
    refine (HR.out _ _ _ _).mono ?_
    rintro e w2 ⟨rfl, hb2⟩
    have h2 := h1.keep (Keep.none hb2) (fun _ _ => id)
    have q2 := bmore hb1 hb2 hb1.size
    have hlev := level_any b _ c w2 h2
    rw [HL.out] at hlev
    clear h1
    go_wp2_with fail
    refine hlev.mono ?_
    rintro e w2 ⟨rfl, rfl⟩
    have hsteps := steps_any b _ c w2 h2 (by rw [HS.out]; omega)
    rw [HS.out] at hsteps
    go_wp2_with fail
    refine hsteps.mono ?_
    rintro e w3 ⟨A3, k3, rfl, -, hb3⟩
    have h3 := h2.keep (Keep.none hb3) (fun _ _ => id)
    have q3 := bmore q2 hb3 q2.size
    have hlv3 := leave_any b _ c w3 h3 (by rw [HS.out]; omega)
    rw [if_pos HL.out, if_pos HL.out] at hlv3
    clear h2 hsteps hlev
    go_wp2_with fail
    refine hlv3.mono ?_
    rintro e w4 ⟨rfl, h4, k4⟩
    have q4 := bkeep q3 k4 (Nat.le_refl _) (fun _ h => h)
    replace h4 := h4.from q3.size
    have hr5 : Reads (w4.alloc (.cells #[.int .u64 1] 29)) 1 (.slice (some ⟨w4.heap.size, 0, none⟩) 1 1) 1 [.int .u64 1] := Reads.new w4 _ _ 1 1 rfl (by omega)
    have h5 : ChoAt (w4.alloc (.cells #[.int .u64 1] 29)) (fun k => w.heap.size ≤ k) b c := h4.keep (S := fun _ => False) ((Keep.refl _ _).alloc _) (fun _ _ => id)
    have q5 := q4.alloc q4.size (.cells #[.int .u64 1] 29)
    have hm5 := mark_any b _ c 0 5 5 _ [1] _ h5 (by rw [HS.out]; omega) o0 hr5 (by simp)
    rw [HM.out] at hm5
    clear hlv3 h4 h3 k4 hr5
    go_wp2_with fail
    refine hm5.mono ?_
    rintro e w6 ⟨rfl, -, k6⟩
    have q6 := bkeep q5 k6 (Nat.le_refl _) (fun _ h => h)
    go_wp2_with fail
    refine (awake23 _).mono ?_
    rintro e w7 ⟨rfl, hb7⟩
    go_wp2
    go_ret
    exact ⟨rfl, bmore q6 hb7 q6.size⟩
  · have hn := new_no first longest fresh w h
    have hr := fun A n k w => right_no first longest fresh A n k w h
    have HR := Lib.hid hr
    clear hr h
    go_enter Try.func7, Try.ntmps7
    go_wp2_with fail
    refine hn.mono ?_
    rintro e _ ⟨rfl, rfl⟩
    go_wp2_with fail
    refine (HR.out _ _ _ _).mono ?_
    rintro e w2 ⟨rfl, hb2⟩
    go_wp2_with fail
    refine (awake23 _).mono ?_
    rintro e w7 ⟨rfl, hb7⟩
    go_wp2
    go_ret
    exact ⟨rfl, bmore hb2 hb7 hb2.size⟩
end Go.Proofs.Ytmiholjmagobhaa
