/- marks: whose markers are due; what Of makes. -/
import Derived.Test.YtmiholjmagobhaaApp
namespace Go.Proofs.Ytmiholjmagobhaa
open Go.RowKit
set_option linter.unusedVariables false
set_option linter.unusedSimpArgs false

theorem info_int : (Try.prog.info? 3).map (fun i => (i.zero, i.size, i.bytes)) = some (some (.int .i64 0), 1, 8) := by kernel_rfl

def dueB (t p : Int) (l : Nat) : Bool := decide ((l : Int) ≤ t) && decide ((t - l) % p = 0)
def dueL (t p : Int) (k : Nat) : List Int := ((List.range k).filter (dueB t p)).map (fun l : Nat => (l : Int))
def DueOk (t p n : Int) : Prop := 0 ≤ t ∧ 1 ≤ p ∧ p ≤ 65536 ∧ 1 ≤ n ∧ n ≤ 8
theorem dueL_yes {t p : Int} {k : Nat} (h : dueB t p k = true) : dueL t p (k + 1) = dueL t p k ++ [(k : Int)] := by simp [dueL, List.range_succ, h]
theorem dueL_no {t p : Int} {k : Nat} (h : dueB t p k = false) : dueL t p (k + 1) = dueL t p k := by simp [dueL, List.range_succ, h]
theorem dueL_len (t p : Int) (k : Nat) : (dueL t p k).length ≤ k := by
  simp only [dueL, List.length_map]
  exact Nat.le_trans (List.length_filter_le _ _) (by simp)

set_option maxRecDepth 100000 in
set_option maxHeartbeats 1000000 in
theorem due_no (t p n : Int) (w : World) (h : ¬ DueOk t p n) :
    Calls Try.prog 13 #[.int .i64 t, .int .i64 p, .int .i64 n] w fun e w' => e = .returned (.slice none 0 0) ∧ w' = w := by
  unfold DueOk at h
  rcases (by omega : t < 0 ∨ (0 ≤ t ∧ p < 1) ∨ (0 ≤ t ∧ 1 ≤ p ∧ 65536 < p) ∨ (0 ≤ t ∧ 1 ≤ p ∧ p ≤ 65536 ∧ n < 1) ∨ (0 ≤ t ∧ 1 ≤ p ∧ p ≤ 65536 ∧ 1 ≤ n ∧ 8 < n)) with
    g1 | ⟨g1, g2⟩ | ⟨g1, g2, g3⟩ | ⟨g1, g2, g3, g4⟩ | ⟨g1, g2, g3, g4, g5⟩
  all_goals
    clear h
    go_enter Try.func13, Try.ntmps13
    go_wp2
    go_ret
    exact ⟨rfl, rfl⟩

set_option maxRecDepth 100000 in
set_option maxHeartbeats 1000000 in
theorem due_yes (t p : Int) (n : Nat) (w : World) (h : DueOk t p n) (ht : t ≤ 9223372036854775807) :
    Calls Try.prog 13 #[.int .i64 t, .int .i64 p, .int .i64 n] w fun e w' => ∃ A c, e = .returned (.slice A (dueL t p n).length c) ∧
      w'.ownsRow w.heap.size 3 1 (.slice A (dueL t p n).length c) (dueL t p n).length ((dueL t p n).map (Value.int .i64)) ∧ Below w.heap.size w w' := by
  obtain ⟨g1, g2, g3, g4, g5⟩ := h
  obtain ⟨i0, hi, hz0, hz1, hz2⟩ := info_parts info_int
  go_enter Try.func13, Try.ntmps13
  go_wp2
  go_loopw [7, 8, 28] (fun o _ i wr => ∃ k : Nat, k ≤ n ∧ i = .int .i64 k ∧ Hid (wr.ownsRow w.heap.size 3 1 o (dueL t p k).length ((dueL t p k).map (Value.int .i64))) ∧ Below w.heap.size w wr) (fun _ _ i _ => n - (intOf i).toNat)
  case atStart => exact ⟨0, by omega, rfl, World.ownsRow_nil _ _ _ _, Below.refl _ _⟩
  case round =>
    obtain ⟨k, hk, rfl, hown, hb⟩ := hrel
    have hs := hb.size
    by_cases hlt : k < n
    · have hkl := dueL_len t p k
      by_cases hd : dueB t p k = true
      · have hd2 := hd
        simp only [dueB, Bool.and_eq_true, decide_eq_true_eq] at hd2
        obtain ⟨d1, d2⟩ := hd2
        have d3 : ((t - (k : Int)) % p == 0) = true := by rw [beq_iff_eq]; exact d2
        have HD := Lib.hid (dueL_yes hd)
        have d4 : 0 ≤ t - (k : Int) := by omega
        clear d2 hd
        go_wp2_with (at_builtin; refine wpList_app1 rfl _ _ 34 rfl w.heap.size 3 i0 (.int .i64 0) 1 8 Try.underlying34 hi hz0 hz1 hz2 rfl _ (dueL t p k).length _ rfl (Hid.out hown) #[.int .i64 (k : Int)] 1 rfl rfl (by intro u hu; simp at hu; subst hu; rfl) (by omega) (by omega) hs ?_; rintro A2 c2 w2 hown2 hk2 - -)
        have hb2 : Below w.heap.size w w2 := hb.trans (hk2.below (fun g hg => ((Hid.out hown).lt g hg).1) hs)
        have HO : Hid (w2.ownsRow w.heap.size 3 1 (.slice A2 ((dueL t p k).length + 1) c2) (dueL t p (k + 1)).length ((dueL t p (k + 1)).map (Value.int .i64))) := by
          show World.ownsRow ..
          rw [HD.out, List.map_append, List.length_append]; exact hown2
        clear hown2
        go_wp2
        go_roundw
        case rel => exact ⟨k + 1, by omega, by go_num, HO, hb2⟩
        case measure => simp [intOf]; omega
      · have hd' : dueB t p k = false := by simpa using hd
        have HD := Lib.hid (dueL_no hd')
        rcases (by
          simp only [dueB, Bool.and_eq_false_iff, decide_eq_false_iff_not] at hd'
          by_cases d1 : (k : Int) ≤ t
          · exact .inr ⟨d1, by rw [beq_eq_false_iff_ne]; exact hd'.resolve_left (fun h => h d1)⟩
          · exact .inl (by omega) : t < (k : Int) ∨ ((k : Int) ≤ t ∧ ((t - (k : Int)) % p == 0) = false)) with d1 | ⟨d1, d2⟩
        · clear hd hd'
          go_wp2
          go_roundw
          case rel => exact ⟨k + 1, by omega, by go_num, by rw [HD.out]; exact hown, hb⟩
          case measure => simp [intOf]; omega
        · have d4 : 0 ≤ t - (k : Int) := by omega
          clear hd hd'
          go_wp2
          go_roundw
          case rel => exact ⟨k + 1, by omega, by go_num, by rw [HD.out]; exact hown, hb⟩
          case measure => simp [intOf]; omega
    · obtain rfl : k = n := by omega
      have ho := Hid.out hown
      obtain ⟨A', c', hv⟩ := ownsRow_slice ho
      subst hv
      go_wp2
      go_ret
      exact ⟨_, _, rfl, ho, hb⟩

set_option maxRecDepth 100000 in
theorem fixof (n : Int) (w : World) (h : 0 ≤ n ∧ n < 4294967296) :
    Calls Try.prog 24 #[.int .u32 n] w fun e w' => e = .returned (.int .u64 (n * 4294967296)) ∧ w' = w := by
  go_enter Try.func24, Try.ntmps24
  go_wp2
  go_ret
  exact ⟨rfl, rfl⟩
end Go.Proofs.Ytmiholjmagobhaa
