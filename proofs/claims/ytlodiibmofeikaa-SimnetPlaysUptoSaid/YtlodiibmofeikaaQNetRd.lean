/- simnet: a net's numbers as the row hands them over. -/
import Derived.Test.YtlodiibmofeikaaQRd
namespace Go.Proofs.Ytlodiibmofeikaa
open Go.ChangeShapes Go.WideShapes Go.ChangeAt Go.RowKit
set_option linter.unusedVariables false
set_option linter.unusedSimpArgs false

theorem rd_cfg {H : Type} {enc : TypeId × Value → H} {w : World} : Rd enc Try.prog w 30 (fun p : Int × Int × Int × Int × Int => [.int .i64 p.1, .int .i64 p.2.1, .int .i64 p.2.2.1, .int .i64 p.2.2.2.1, .int .i64 p.2.2.2.2]) (fun _ => True) (fun _ => 0) :=
  (Rd.struct Try.underlying30 (by kernel_rfl)
    (RdF.cons (n1 := 1) (Rd.int Try.underlying3) rfl (by kernel_rfl) (RdF.cons (n1 := 1) (Rd.int Try.underlying3) rfl (by kernel_rfl) (RdF.cons (n1 := 1) (Rd.int Try.underlying3) rfl (by kernel_rfl)
      (RdF.cons (n1 := 1) (Rd.int Try.underlying3) rfl (by kernel_rfl) (RdF.cons (n1 := 1) (Rd.int Try.underlying3) rfl (by kernel_rfl) RdF.nil)))))).map
    (fun p => (p.1, p.2.1, p.2.2.1, p.2.2.2.1, p.2.2.2.2.1)) (fun _ => rfl) (fun _ _ => trivial) (fun p _ => Nat.zero_le _)
end Go.Proofs.Ytlodiibmofeikaa
