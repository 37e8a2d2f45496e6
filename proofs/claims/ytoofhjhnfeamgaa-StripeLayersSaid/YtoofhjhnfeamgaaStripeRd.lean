/- stripe: what the rows hand over: the law's case. -/
import Derived.Test.YtoofhjhnfeamgaaRd
namespace Go.Proofs.Ytoofhjhnfeamgaa
open Go.ChangeShapes Go.WideShapes Go.ChangeAt Go.RowKit
set_option linter.unusedVariables false
set_option linter.unusedSimpArgs false

theorem rd_case {H : Type} {enc : TypeId × Value → H} {w : World} : Rd enc Try.prog w 23 (fun p : Int × Int × Int => [.int .i64 p.1, .int .i64 p.2.1, .int .i64 p.2.2]) (fun _ => True) (fun _ => 0) :=
  (Rd.struct Try.underlying23 (by kernel_rfl)
    (RdF.cons (n1 := 1) (Rd.int Try.underlying3) rfl (by kernel_rfl) (RdF.cons (n1 := 1) (Rd.int Try.underlying3) rfl (by kernel_rfl) (RdF.cons (n1 := 1) (Rd.int Try.underlying3) rfl (by kernel_rfl) RdF.nil)))).map
    (fun p => (p.1, p.2.1, p.2.2.1)) (fun _ => rfl) (fun _ _ => trivial) (fun p _ => Nat.zero_le _)
end Go.Proofs.Ytoofhjhnfeamgaa
