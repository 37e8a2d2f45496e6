/- clr: the calls of the laws as the rows hand them over. -/
import Derived.Test.YthnnhagccemnnaaClrHolds
import Derived.Test.YthnnhagccemnnaaRd
namespace Go.Proofs.Ythnnhagccemnnaa
open Go.ChangeShapes Go.WideShapes Go.ChangeAt Go.RowKit
set_option linter.unusedVariables false
set_option linter.unusedSimpArgs false

theorem rd_op {H : Type} {enc : TypeId × Value → H} {w : World} : Rd enc Try.prog w 31 opCells (fun _ => True) (fun _ => 1) :=
  (Rd.struct Try.underlying31 (by kernel_rfl)
    (RdF.cons (n1 := 1) (Rd.int Try.underlying3) rfl (by kernel_rfl) (RdF.cons (n1 := 1) (Rd.int Try.underlying3) rfl (by kernel_rfl) (RdF.cons (n1 := 1) (Rd.int Try.underlying3) rfl (by kernel_rfl) (RdF.cons (n1 := 1) (Rd.int Try.underlying3) rfl (by kernel_rfl) (RdF.cons (n1 := 1) (Rd.int Try.underlying29) rfl (by kernel_rfl) RdF.nil)))))).map
    (fun p => (⟨p.1, p.2.1, p.2.2.1, p.2.2.2.1, p.2.2.2.2.1⟩ : OpD)) (fun _ => rfl) (fun _ _ => trivial) (fun p _ => by simp; try omega)
theorem rd_ops {H : Type} {enc : TypeId × Value → H} {w : World} : Rd enc Try.prog w 22 (fun p : Value × List OpD => [p.1]) (fun p => Ops w p.1 p.2) (fun p => (p.2.map (fun _ => 1)).sum + 1) :=
  (Rd.slice (s := 5) rd_op opCells_len (by omega) (by kernel_rfl) Try.underlying22).map id (fun _ => rfl) (fun p h => h.1) (fun p _ => Nat.le_refl _)

theorem Ops.val {w : World} {v : Value} {l : List OpD} (h : Ops w v l) : ∃ A c, v = .slice A l.length c := by
  obtain ⟨A, c, e, -⟩ := Reads.val h
  exact ⟨A, c, e⟩
theorem clrHolds_any (lim : Int) (v : Value) (ops : List OpD) (w : World) (h : Ops w v ops) :
    Calls Try.prog 3 #[.int .i64 lim, v] w fun e w' => e = .returned (.bool true) ∧ Below w.heap.size w w' := by
  obtain ⟨A, c, rfl⟩ := h.val
  by_cases hc : 80 < ops.length ∨ lim < 1 ∨ 1048576 < lim
  · exact clrHolds_no lim A ops.length c w hc
  · exact clrHolds_yes lim A c ops w h (by omega) (by omega) (by omega)
end Go.Proofs.Ythnnhagccemnnaa
