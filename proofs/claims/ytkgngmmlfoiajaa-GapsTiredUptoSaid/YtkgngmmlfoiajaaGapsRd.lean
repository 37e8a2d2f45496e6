/- gaps: the cases of the laws as the rows hand them over. -/
import Derived.Test.YtkgngmmlfoiajaaGapsStep
import Derived.Test.YtkgngmmlfoiajaaRdPair
namespace Go.Proofs.Ytkgngmmlfoiajaa
open Go.ChangeShapes Go.WideShapes Go.ChangeAt Go.RowKit
set_option linter.unusedVariables false
set_option linter.unusedSimpArgs false

theorem rd_pairs {H : Type} {enc : TypeId × Value → H} {w : World} : Rd enc Try.prog w 33 (fun p : Value × List (Int × Int) => [p.1]) (fun p => Reads w 2 p.1 p.2.length (p.2.flatMap pairCells)) (fun p => p.2.length + 1) :=
  (Rd.slice (s := 2) (Rd.pair Try.underlying36 Try.underlying3 (by kernel_rfl) (by kernel_rfl)) (fun _ => rfl) (by omega) (by kernel_rfl) Try.underlying33).map id (fun _ => rfl) (fun p h => h.1) (fun p _ => by rw [sum_one]; exact Nat.le_refl _)
theorem rd_op {H : Type} {enc : TypeId × Value → H} {w : World} : Rd enc Try.prog w 44 opCells (fun o => Reads w 2 o.lv o.l.length (o.l.flatMap pairCells)) (fun o => o.l.length + 1) :=
  (Rd.struct Try.underlying44 (by kernel_rfl)
    (RdF.cons (n1 := 1) (Rd.int Try.underlying3) rfl (by kernel_rfl) (RdF.cons (n1 := 1) (Rd.int Try.underlying3) rfl (by kernel_rfl) (RdF.cons (n1 := 1) (Rd.int Try.underlying3) rfl (by kernel_rfl)
      (RdF.cons (n1 := 1) (Rd.int Try.underlying3) rfl (by kernel_rfl) (RdF.cons (n1 := 1) rd_pairs rfl (by kernel_rfl) RdF.nil)))))).map
    (fun p => (⟨p.1, p.2.1, p.2.2.1, p.2.2.2.1, p.2.2.2.2.1.1, p.2.2.2.2.1.2⟩ : OpD)) (fun _ => rfl) (fun p h => h.2.2.2.2.1) (fun p _ => by simp; omega)
theorem rd_case {H : Type} {enc : TypeId × Value → H} {w : World} : Rd enc Try.prog w 40 (fun p : Int × Int × Value × List OpD => [.int .i64 p.1, .int .i64 p.2.1, p.2.2.1])
    (fun p => Reads w 5 p.2.2.1 p.2.2.2.length (p.2.2.2.flatMap opCells) ∧ ∀ o ∈ p.2.2.2, Reads w 2 o.lv o.l.length (o.l.flatMap pairCells)) (fun p => (p.2.2.2.map (fun o => o.l.length + 1)).sum) :=
  (Rd.struct Try.underlying40 (by kernel_rfl)
    (RdF.cons (n1 := 1) (Rd.int Try.underlying3) rfl (by kernel_rfl) (RdF.cons (n1 := 1) (Rd.int Try.underlying3) rfl (by kernel_rfl)
      (RdF.cons (n1 := 1) (Rd.slice (s := 5) rd_op opCells_len (by omega) (by kernel_rfl) Try.underlying38) rfl (by kernel_rfl) RdF.nil)))).map
    (fun p => (p.1, p.2.1, p.2.2.1.1, p.2.2.1.2)) (fun _ => rfl) (fun p h => h.2.2.1) (fun p _ => by simp; omega)
theorem ops_in {w : World} {v : Value} {ops : List OpD} (h : Reads w 5 v ops.length (ops.flatMap opCells) ∧ ∀ o ∈ ops, Reads w 2 o.lv o.l.length (o.l.flatMap pairCells)) (hb : (ops.map (fun o => o.l.length + 1)).sum ≤ 1048576) : OpsIn w v ops :=
  ⟨h.1, fun o ho => ⟨h.2 o ho, by have := le_sum (fun o : OpD => o.l.length + 1) ops o ho; omega⟩, Nat.le_trans (len_sum (fun o : OpD => o.l.length + 1) (fun _ => by omega) ops) hb⟩
theorem OpsIn.val {w : World} {v : Value} {ops : List OpD} (h : OpsIn w v ops) : ∃ A c, v = .slice A ops.length c := by
  obtain ⟨A, c, e, -⟩ := h.rd.val
  exact ⟨A, c, e⟩
end Go.Proofs.Ytkgngmmlfoiajaa
