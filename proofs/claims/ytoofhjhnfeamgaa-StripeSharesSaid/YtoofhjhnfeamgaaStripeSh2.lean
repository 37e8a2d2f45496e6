/- split.Shares. -/
import Derived.Test.YtoofhjhnfeamgaaStripeSh
import Derived.Test.YtoofhjhnfeamgaaApp
import Derived.Lib.SliceRun
namespace Go.Proofs.Ytoofhjhnfeamgaa
open Go.RowKit
set_option linter.unusedVariables false
set_option linter.unusedSimpArgs false

theorem info_int : (Try.prog.info? 3).map (fun i => (i.zero, i.size, i.bytes)) = some (some (.int .i64 0), 1, 8) := by kernel_rfl
def shrV (q : Nat) : List Value := (List.range q).map fun j => .int .i64 (shr j : Nat)
theorem shrV_succ (q : Nat) : shrV (q + 1) = shrV q ++ [.int .i64 (shr q : Nat)] := by unfold shrV; rw [List.range_succ, List.map_append]; rfl
theorem shr_pow {q : Nat} (h1 : 1 ≤ q) (h2 : q < 8) : wrap64 (2 ^ (q - 1)) = ((shr q : Nat) : Int) := by
  rcases (by omega : q = 1 ∨ q = 2 ∨ q = 3 ∨ q = 4 ∨ q = 5 ∨ q = 6 ∨ q = 7) with rfl | rfl | rfl | rfl | rfl | rfl | rfl <;> decide +kernel
set_option maxRecDepth 100000 in
theorem sright_any (n : Nat) (w : World) (h1 : 1 ≤ n) (h2 : n ≤ 8) : Calls Try.prog 28 #[.int .i64 n] w fun e w' => e = .returned (.bool true) ∧ w = w' := by
  have g1 : (1 : Int) ≤ n := by omega
  have g2 : (n : Int) ≤ 8 := by omega
  go_enter Try.func28, Try.ntmps28
  go_wp2_with fail
  go_ret
  exact ⟨rfl, rfl⟩
set_option maxRecDepth 100000 in
set_option maxHeartbeats 1000000 in
theorem shares_any (n : Nat) (w : World) (h1 : 1 ≤ n) (h2 : n ≤ 8) :
    Calls Try.prog 19 #[.int .i64 n] w fun e w' => ∃ A c, e = .returned (.slice A n c) ∧ w'.ownsRow w.heap.size 3 1 (.slice A n c) n (shrV n) ∧ Below w.heap.size w w' := by
  have HR := Lib.hid (fun w => sright_any n w h1 h2)
  obtain ⟨i0, hi, hz0, hz1, hz2⟩ := info_parts info_int
  have hb0 := (Below.refl _ w).alloc (Nat.le_refl w.heap.size) (.cells #[.int .i64 1] 3)
  have HB0 := Lib.hid hb0
  have HO0 : Hid ((w.alloc (.cells #[.int .i64 1] 3)).ownsRow w.heap.size 3 1 (.slice (some ⟨w.heap.size, 0, none⟩) 1 1) 1 (shrV 1)) := ⟨rfl, .inr ⟨w.heap.size, 1, _, rfl, Nat.le_refl _, Blk.new w _ _, Nat.le_refl _, by decide, rfl, rfl⟩⟩
  clear hb0
  go_enter Try.func19, Try.ntmps19
  go_wp2_with fail
  refine (HR.out w).mono ?_
  rintro e w1 ⟨rfl, rfl⟩
  go_wp2_with fail
  go_loopw [3, 4] (fun o i wr => ∃ q : Nat, 1 ≤ q ∧ q ≤ n ∧ i = .int .i64 q ∧ Hid (wr.ownsRow w.heap.size 3 1 o q (shrV q)) ∧ Below w.heap.size w wr) (fun _ i _ => n - (intOf i).toNat)
  case atStart => exact ⟨1, by omega, by omega, rfl, HO0, HB0.out⟩
  case round =>
    obtain ⟨q, hq1, hq2, rfl, hown, hb⟩ := hrel
    have hs := hb.size
    by_cases hqn : q < n
    · have j1 : (0 : Int) ≤ (q : Int) - 1 := by omega
      have j2 : (q : Int) - 1 < 64 := by omega
      have HSH := Lib.hid (shr_pow hq1 (show q < 8 by omega))
      go_wp2_with (at_builtin; refine wpList_app1 rfl _ _ 39 rfl w.heap.size 3 i0 (.int .i64 0) 1 8 Try.underlying39 hi hz0 hz1 hz2 rfl _ q _ rfl (Hid.out hown) #[.int .i64 (wrap64 (2 ^ (q - 1)))] 1 rfl rfl (by intro u hu; simp at hu; subst hu; rfl) (by omega) (by omega) hs ?_; rintro A2 c2 w2 hown2 hk2 - -)
      have hb2 : Below w.heap.size w w2 := hb.trans (hk2.below (fun g hg => ((Hid.out hown).lt g hg).1) hs)
      have HO : Hid (w2.ownsRow w.heap.size 3 1 (.slice A2 (q + 1) c2) (q + 1) (shrV (q + 1))) := by
        show World.ownsRow ..
        rw [shrV_succ, ← HSH.out]; exact hown2
      clear hown2
      go_wp2
      go_roundw
      case rel => exact ⟨q + 1, by omega, by omega, by go_num, HO, hb2⟩
      case measure => simp [intOf]; omega
    · obtain rfl : q = n := by omega
      obtain ⟨A', c', rfl⟩ := ownsRow_slice hown.out
      go_wp2
      go_ret
      exact ⟨A', c', rfl, hown.out, hb⟩
end Go.Proofs.Ytoofhjhnfeamgaa
