/- marks: the cases of the laws as the rows hand them over. -/
import Derived.Test.YtmiholjmagobhaaMarksCase
import Derived.Test.YtmiholjmagobhaaRd
namespace Go.Proofs.Ytmiholjmagobhaa
open Go.ChangeShapes Go.WideShapes Go.ChangeAt Go.RowKit
set_option linter.unusedVariables false
set_option linter.unusedSimpArgs false

structure OpRd (w : World) (o : OpD) : Prop where
  rates : Reads w 1 o.rv o.rates.length (o.rates.map (Value.int .u64))
  kind : (Lit.int .i64 o.kind).wf = true
  layer : (Lit.int .i64 o.layer).wf = true
  later : (Lit.int .i64 o.later).wf = true
  own : (Lit.int .u64 o.own).wf = true
  ratesU : ∀ x ∈ o.rates, (Lit.int .u64 x).wf = true

theorem rd_rates {H : Type} {enc : TypeId × Value → H} {w : World} : Rd enc Try.prog w 30 (fun p : Value × List Int => [p.1]) (fun p => Reads w 1 p.1 p.2.length (p.2.map (Value.int .u64)) ∧ ∀ x ∈ p.2, (Lit.int .u64 x).wf = true) (fun p => p.2.length + 1) :=
  (Rd.slice (s := 1) (Rd.int Try.underlying29) (fun _ => rfl) (by omega) (by kernel_rfl) Try.underlying30).map id (fun _ => rfl)
    (fun p h => ⟨by have := h.1; rw [flatMap_one] at this; exact this, h.2⟩) (fun p _ => by rw [sum_one]; exact Nat.le_refl _)

theorem rd_op {H : Type} {enc : TypeId × Value → H} {w : World} : Rd enc Try.prog w 45 opCells (OpRd w) (fun o => o.rates.length + 1) :=
  (Rd.struct Try.underlying45 (by kernel_rfl)
    (RdF.cons (n1 := 1) (Rd.int Try.underlying3) rfl (by kernel_rfl) (RdF.cons (n1 := 1) (Rd.int Try.underlying3) rfl (by kernel_rfl) (RdF.cons (n1 := 1) (Rd.int Try.underlying3) rfl (by kernel_rfl)
      (RdF.cons (n1 := 1) rd_rates rfl (by kernel_rfl) (RdF.cons (n1 := 1) (Rd.int Try.underlying29) rfl (by kernel_rfl) RdF.nil)))))).map
    (fun p => (⟨p.1, p.2.1, p.2.2.1, p.2.2.2.1.1, p.2.2.2.1.2, p.2.2.2.2.1⟩ : OpD)) (fun _ => rfl)
    (fun p h => ⟨h.2.2.2.1.1, h.1, h.2.1, h.2.2.1, h.2.2.2.2.1, h.2.2.2.1.2⟩) (fun p _ => by simp; omega)

theorem rd_case {H : Type} {enc : TypeId × Value → H} {w : World} : Rd enc Try.prog w 39 (fun p : Int × Int × Int × Value × List OpD => [.int .i64 p.1, .int .i64 p.2.1, .int .i64 p.2.2.1, p.2.2.2.1])
    (fun p => Reads w 5 p.2.2.2.1 p.2.2.2.2.length (p.2.2.2.2.flatMap opCells) ∧ ∀ o ∈ p.2.2.2.2, OpRd w o) (fun p => (p.2.2.2.2.map (fun o => o.rates.length + 1)).sum) :=
  (Rd.struct Try.underlying39 (by kernel_rfl)
    (RdF.cons (n1 := 1) (Rd.int Try.underlying3) rfl (by kernel_rfl) (RdF.cons (n1 := 1) (Rd.int Try.underlying3) rfl (by kernel_rfl) (RdF.cons (n1 := 1) (Rd.int Try.underlying3) rfl (by kernel_rfl)
      (RdF.cons (n1 := 1) (Rd.slice (s := 5) rd_op opCells_len (by omega) (by kernel_rfl) Try.underlying37) rfl (by kernel_rfl) RdF.nil))))).map
    (fun p => (p.1, p.2.1, p.2.2.1, p.2.2.2.1.1, p.2.2.2.1.2)) (fun _ => rfl) (fun p h => h.2.2.2.1) (fun p _ => by simp; omega)

theorem case_ok {w : World} {v : Value} {ops : List OpD} (h : Reads w 5 v ops.length (ops.flatMap opCells) ∧ ∀ o ∈ ops, OpRd w o) (hb : (ops.map (fun o => o.rates.length + 1)).sum ≤ 1048576) : CaseOk w v ops :=
  ⟨h.1, fun o ho => by
    have h1 := h.2 o ho
    have := le_sum (fun o : OpD => o.rates.length + 1) ops o ho
    exact ⟨h1.rates, by omega, h1.kind, h1.layer, h1.later, h1.own, h1.ratesU⟩, Nat.le_trans (len_sum (fun o : OpD => o.rates.length + 1) (fun _ => by omega) ops) hb⟩
end Go.Proofs.Ytmiholjmagobhaa
