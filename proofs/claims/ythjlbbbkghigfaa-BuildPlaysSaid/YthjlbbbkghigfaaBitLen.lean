/- math/bits: Len of a small number. -/
import Derived.Test.YthjlbbbkghigfaaMem
namespace Go.Proofs.Ythjlbbbkghigfaa
open Go.RowKit
set_option linter.unusedVariables false
set_option linter.unusedSimpArgs false
/-- how many bits a small number takes -/
def bl (x : Nat) : Nat := if x = 0 then 0 else x.log2 + 1
set_option maxRecDepth 100000 in
theorem len64_any (x : Nat) (w : World) (hx : x < 256) : Calls Try.prog 57 #[.int .u64 x] w fun e w' => e = .returned (.int .i64 (bl x)) ∧ w = w' := by
  have h1 : ¬ (4294967296 : Int) ≤ x := by omega
  have h2 : ¬ (65536 : Int) ≤ x := by omega
  have h3 : ¬ (256 : Int) ≤ x := by omega
  have h4 : (0 : Int) ≤ x := by omega
  have h5 : (x : Int) < 256 := by omega
  go_enter Try.func57, Try.ntmps57
  go_wp2_with fail
  go_ret
  refine ⟨?_, rfl⟩
  refine congrArg (fun z => Ending.returned (.int .i64 z)) ?_
  rw [← getElem!_pos]
  clear h1 h2 h3 h4 h5
  revert x
  decide +kernel
set_option maxRecDepth 100000 in
theorem bitlen_any (x : Nat) (w : World) (hx : x < 256) : Calls Try.prog 51 #[.int .u64 x] w fun e w' => e = .returned (.int .i64 (bl x)) ∧ w = w' := by
  have H := Lib.hid (len64_any x w hx)
  have h4 : (0 : Int) ≤ x := by omega
  have h5 : (x : Int) < 256 := by omega
  go_enter Try.func51, Try.ntmps51
  go_wp2_with fail
  refine H.out.mono ?_
  rintro e w1 ⟨rfl, rfl⟩
  go_wp2
  go_ret
  exact ⟨rfl, rfl⟩
end Go.Proofs.Ythjlbbbkghigfaa
