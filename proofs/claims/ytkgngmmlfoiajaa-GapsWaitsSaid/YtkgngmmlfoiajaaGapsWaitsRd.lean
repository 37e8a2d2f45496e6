/- gaps: GapsWaits as the row hands it over. -/
import Derived.Test.YtkgngmmlfoiajaaGapsWaits
import Derived.Test.YtkgngmmlfoiajaaRd
namespace Go.Proofs.Ytkgngmmlfoiajaa
open Go.ChangeShapes Go.WideShapes Go.ChangeAt Go.RowKit
set_option linter.unusedVariables false
set_option linter.unusedSimpArgs false

theorem rd_waits {H : Type} {enc : TypeId × Value → H} {w : World} : Rd enc Try.prog w 23 (fun p : Int × Int × Int × Int => [.int .i64 p.1, .int .i64 p.2.1, .int .i64 p.2.2.1, .int .i64 p.2.2.2]) (fun _ => True) (fun _ => 0) :=
  (Rd.struct Try.underlying23 (by kernel_rfl)
    (RdF.cons (n1 := 1) (Rd.int Try.underlying3) rfl (by kernel_rfl) (RdF.cons (n1 := 1) (Rd.int Try.underlying3) rfl (by kernel_rfl) (RdF.cons (n1 := 1) (Rd.int Try.underlying3) rfl (by kernel_rfl) (RdF.cons (n1 := 1) (Rd.int Try.underlying3) rfl (by kernel_rfl) RdF.nil))))).map
    (fun p => (p.1, p.2.1, p.2.2.1, p.2.2.2.1)) (fun _ => rfl) (fun _ _ => trivial) (fun p _ => Nat.zero_le _)
theorem gapsWaits_any (a b c d : Int) (w : World) :
    Calls Try.prog 3 #[.agg #[.int .i64 a, .int .i64 b, .int .i64 c, .int .i64 d]] w fun e w' => e = .returned (.bool true) ∧ Below w.heap.size w w' := by
  by_cases h : WaitOk a b c d
  · obtain ⟨n, rfl⟩ := Int.eq_ofNat_of_zero_le h.2.2.2.2.2.2.1
    exact gapsWaits_yes a b c n w h
  · exact gapsWaits_no a b c d w h
end Go.Proofs.Ytkgngmmlfoiajaa
