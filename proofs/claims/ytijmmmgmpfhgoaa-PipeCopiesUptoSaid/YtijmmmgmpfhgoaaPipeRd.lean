/- pipe: the calls of the laws as the rows hand them over. -/
import Derived.Test.YtijmmmgmpfhgoaaPipePlays
import Derived.Test.YtijmmmgmpfhgoaaRd
namespace Go.Proofs.Ytijmmmgmpfhgoaa
open Go.ChangeShapes Go.WideShapes Go.ChangeAt Go.RowKit
set_option linter.unusedVariables false
set_option linter.unusedSimpArgs false

theorem rd_text {H : Type} {enc : TypeId × Value → H} {w : World} : Rd enc Try.prog w 28 (fun p : Value × List Int => [p.1]) (fun p => Reads w 1 p.1 p.2.length (p.2.map (Value.int .u8))) (fun p => p.2.length + 1) :=
  (Rd.slice (s := 1) (Rd.int Try.underlying5) (fun _ => rfl) (by omega) (by kernel_rfl) Try.underlying28).map id (fun _ => rfl)
    (fun p h => by have := h.1; rw [flatMap_one] at this; exact this) (fun p _ => by rw [sum_one]; exact Nat.le_refl _)
theorem rd_op {H : Type} {enc : TypeId × Value → H} {w : World} : Rd enc Try.prog w 35 opCells (fun o => Reads w 1 o.v o.text.length (o.text.map (Value.int .u8))) (fun o => o.text.length + 1) :=
  (Rd.struct Try.underlying35 (by kernel_rfl)
    (RdF.cons (n1 := 1) (Rd.int Try.underlying3) rfl (by kernel_rfl) (RdF.cons (n1 := 1) (Rd.int Try.underlying3) rfl (by kernel_rfl) (RdF.cons (n1 := 1) (Rd.int Try.underlying3) rfl (by kernel_rfl)
      (RdF.cons (n1 := 1) rd_text rfl (by kernel_rfl) RdF.nil))))).map
    (fun p => (⟨p.1, p.2.1, p.2.2.1, p.2.2.2.1.1, p.2.2.2.1.2⟩ : OpD)) (fun _ => rfl) (fun p h => h.2.2.2.1) (fun p _ => by simp; omega)
theorem rd_ops {H : Type} {enc : TypeId × Value → H} {w : World} : Rd enc Try.prog w 31 (fun p : Value × List OpD => [p.1])
    (fun p => Reads w 4 p.1 p.2.length (p.2.flatMap opCells) ∧ ∀ o ∈ p.2, Reads w 1 o.v o.text.length (o.text.map (Value.int .u8))) (fun p => (p.2.map (fun o => o.text.length + 1)).sum) :=
  (Rd.slice (s := 4) rd_op opCells_len (by omega) (by kernel_rfl) Try.underlying31).map id (fun _ => rfl) (fun p h => h) (fun p _ => by simp)
theorem case_ok {w : World} {v v' : Value} {ops : List OpD} {A : Option Addr} {n c : Nat} (hv : v = .slice A n c) (he : v.cells.toList = [v']) (h : Reads w 4 v' ops.length (ops.flatMap opCells) ∧ ∀ o ∈ ops, Reads w 1 o.v o.text.length (o.text.map (Value.int .u8))) (hb : (ops.map (fun o => o.text.length + 1)).sum ≤ 1048576) : CaseOk w v ops := by
  subst hv
  obtain rfl : v' = .slice A n c := by simpa [Value.cells] using he.symm
  exact ⟨h.1, fun o ho => ⟨h.2 o ho, by have := le_sum (fun o : OpD => o.text.length + 1) ops o ho; omega⟩, Nat.le_trans (len_sum (fun o : OpD => o.text.length + 1) (fun _ => by omega) ops) hb⟩
end Go.Proofs.Ytijmmmgmpfhgoaa
