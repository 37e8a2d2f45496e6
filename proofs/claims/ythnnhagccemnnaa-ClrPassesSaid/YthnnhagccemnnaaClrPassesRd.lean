/- clr: ClrPasses as the row hands it over. -/
import Derived.Test.YthnnhagccemnnaaClrPasses
import Derived.Test.YthnnhagccemnnaaRd
namespace Go.Proofs.Ythnnhagccemnnaa
open Go.ChangeShapes Go.WideShapes Go.ChangeAt Go.RowKit
set_option linter.unusedVariables false
set_option linter.unusedSimpArgs false

theorem rd_told {H : Type} {enc : TypeId × Value → H} {w : World} : Rd enc Try.prog w 34 (fun p : Int × Int × Int => [.int .i64 p.1, .int .i64 p.2.1, .int .u64 p.2.2]) (fun _ => True) (fun _ => 0) :=
  (Rd.struct Try.underlying34 (by kernel_rfl)
    (RdF.cons (n1 := 1) (Rd.int Try.underlying3) rfl (by kernel_rfl) (RdF.cons (n1 := 1) (Rd.int Try.underlying3) rfl (by kernel_rfl) (RdF.cons (n1 := 1) (Rd.int Try.underlying29) rfl (by kernel_rfl) RdF.nil)))).map
    (fun p => (p.1, p.2.1, p.2.2.1)) (fun _ => rfl) (fun _ _ => trivial) (fun p _ => Nat.zero_le _)
theorem clrPasses_any (lim a b c by' : Int) (w : World) :
    Calls Try.prog 4 #[.int .i64 lim, .agg #[.int .i64 a, .int .i64 b, .int .u64 c], .int .i64 by'] w fun e w' => e = .returned (.bool true) ∧ Below w.heap.size w w' := by
  by_cases h : PassR lim by' ⟨a, b, c⟩
  · exact clrPasses_yes lim by' ⟨a, b, c⟩ w h
  · exact clrPasses_no lim by' ⟨a, b, c⟩ w h
end Go.Proofs.Ythnnhagccemnnaa
