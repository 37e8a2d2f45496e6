/- build: the laws' cases as the rows hand them over. -/
import Derived.Test.YthjlbbbkghigfaaBuildOps
namespace Go.Proofs.Ythjlbbbkghigfaa
open Go.ChangeShapes Go.WideShapes Go.ChangeAt Go.RowKit
set_option linter.unusedVariables false
set_option linter.unusedSimpArgs false

theorem u8_wf {n : Int} (h : (Lit.int .u8 n).wf = true) : 0 ≤ n ∧ n < 256 := by
  simp [Lit.wf] at h
  have h1 : IntKind.u8.min = 0 := rfl
  have h2 : IntKind.u8.max = 255 := rfl
  omega
theorem flat_u8 (l : List Int) : l.flatMap (fun n => [Value.int .u8 n]) = l.map (Value.int .u8) := by induction l <;> simp_all
theorem rd_bytes {H : Type} {enc : TypeId × Value → H} {w : World} : Rd enc Try.prog w 32 (fun p : Value × List Int => [p.1]) (fun p => Reads w 1 p.1 p.2.length (p.2.map (Value.int .u8)) ∧ ∀ b ∈ p.2, 0 ≤ b ∧ b < 256) (fun _ => 0) :=
  (Rd.slice (s := 1) (Rd.int Try.underlying5) (fun _ => rfl) (by omega) (by kernel_rfl) Try.underlying32).map id (fun _ => rfl) (fun p h => ⟨by have := h.1; rwa [flat_u8] at this, fun b hb => u8_wf (h.2 b hb)⟩) (fun p _ => Nat.zero_le _)
theorem rd_op {H : Type} {enc : TypeId × Value → H} {w : World} : Rd enc Try.prog w 34 opCells (fun o => OpIn w o) (fun _ => 0) :=
  (Rd.struct Try.underlying34 (by kernel_rfl)
    (RdF.cons (n1 := 1) (Rd.int Try.underlying3) rfl (by kernel_rfl) (RdF.cons (n1 := 1) (Rd.int Try.underlying3) rfl (by kernel_rfl) (RdF.cons (n1 := 1) (Rd.int Try.underlying3) rfl (by kernel_rfl)
      (RdF.cons (n1 := 1) rd_bytes rfl (by kernel_rfl) RdF.nil))))).map
    (fun p => (⟨p.1, p.2.1, p.2.2.1, p.2.2.2.1.1, p.2.2.2.1.2⟩ : OpB)) (fun _ => rfl) (fun p h => ⟨h.2.2.2.1.1, h.2.2.2.1.2⟩) (fun p _ => Nat.zero_le _)
theorem rd_case {H : Type} {enc : TypeId × Value → H} {w : World} : Rd enc Try.prog w 24 (fun p : Int × Int × Int × Value × List OpB => [.int .i64 p.1, .int .i64 p.2.1, .int .i64 p.2.2.1, p.2.2.2.1])
    (fun p => OpsIn w p.2.2.2.1 p.2.2.2.2) (fun _ => 0) :=
  (Rd.struct Try.underlying24 (by kernel_rfl)
    (RdF.cons (n1 := 1) (Rd.int Try.underlying3) rfl (by kernel_rfl) (RdF.cons (n1 := 1) (Rd.int Try.underlying3) rfl (by kernel_rfl) (RdF.cons (n1 := 1) (Rd.int Try.underlying3) rfl (by kernel_rfl)
      (RdF.cons (n1 := 1) (Rd.slice (s := 4) rd_op opCells_len (by omega) (by kernel_rfl) Try.underlying22) rfl (by kernel_rfl) RdF.nil))))).map
    (fun p => (p.1, p.2.1, p.2.2.1, p.2.2.2.1.1, p.2.2.2.1.2)) (fun _ => rfl) (fun p h => ⟨h.2.2.2.1.1, h.2.2.2.1.2⟩) (fun p _ => Nat.zero_le _)
end Go.Proofs.Ythjlbbbkghigfaa
