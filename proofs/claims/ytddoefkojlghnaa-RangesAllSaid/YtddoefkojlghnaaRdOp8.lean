/- what a row hands over: the law's calls. -/
import Derived.Test.YtddoefkojlghnaaRdPair
import Derived.Test.YtddoefkojlghnaaRangesPlayed
namespace Go.Proofs.Ytddoefkojlghnaa
open Go.ChangeShapes Go.WideShapes Go.ChangeAt Go.RowKit
set_option linter.unusedVariables false
set_option linter.unusedSimpArgs false
theorem rd_op {H : Type} {enc : TypeId × Value → H} {w : World} : Rd enc Try.prog w 35 opCells (fun _ => True) (fun _ => 1) :=
  (Rd.struct Try.underlying35 (by kernel_rfl)
    (RdF.cons (n1 := 1) (Rd.int Try.underlying3) rfl (by kernel_rfl) (RdF.cons (n1 := 1) (Rd.int Try.underlying3) rfl (by kernel_rfl) (RdF.cons (n1 := 1) (Rd.int Try.underlying3) rfl (by kernel_rfl) RdF.nil)))).map
    (fun p => (p.1, p.2.1, p.2.2.1)) (fun _ => rfl) (fun _ _ => trivial) (fun p _ => by simp)
end Go.Proofs.Ytddoefkojlghnaa
