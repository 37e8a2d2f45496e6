/- simnet: the calls of the laws as the rows hand them over. -/
import Derived.Test.YtlodiibmofeikaaQNetPlays
import Derived.Test.YtlodiibmofeikaaQNetRd
namespace Go.Proofs.Ytlodiibmofeikaa
open Go.ChangeShapes Go.WideShapes Go.ChangeAt Go.RowKit
set_option linter.unusedVariables false
set_option linter.unusedSimpArgs false

theorem rdp_fate {H : Type} {enc : TypeId × Value → H} {w : World} : Rd enc Try.prog w 39 fateCells (fun _ => True) (fun _ => 0) :=
  (Rd.struct Try.underlying39 (by kernel_rfl) (RdF.cons (n1 := 1) (Rd.int Try.underlying3) rfl (by kernel_rfl) (RdF.cons (n1 := 1) (Rd.int Try.underlying3) rfl (by kernel_rfl) RdF.nil))).map
    (fun p => (⟨p.1, p.2.1⟩ : FD)) (fun _ => rfl) (fun _ _ => trivial) (fun p _ => Nat.zero_le _)
theorem rdp_fates {H : Type} {enc : TypeId × Value → H} {w : World} : Rd enc Try.prog w 22 (fun p : Value × List FD => [p.1]) (fun p => Reads w 2 p.1 p.2.length (p.2.flatMap fateCells)) (fun _ => 0) :=
  (Rd.slice (s := 2) rdp_fate fateCells_len (by omega) (by kernel_rfl) Try.underlying22).map id (fun _ => rfl) (fun p h => h.1) (fun p _ => Nat.zero_le _)
theorem u8p_wf {n : Int} (h : (Lit.int .u8 n).wf = true) : 0 ≤ n ∧ n < 256 := by
  simp [Lit.wf] at h
  have h1 : IntKind.u8.min = 0 := rfl
  have h2 : IntKind.u8.max = 255 := rfl
  omega
structure OpRd (w : World) (o : OpN) : Prop where
  text : Reads w 1 o.v o.text.length (o.text.map (Value.int .u8))
  wf : ∀ x ∈ o.text, (Lit.int .u8 x).wf = true
theorem rd_text {H : Type} {enc : TypeId × Value → H} {w : World} : Rd enc Try.prog w 23 (fun p : Value × List Int => [p.1]) (fun p => Reads w 1 p.1 p.2.length (p.2.map (Value.int .u8)) ∧ ∀ x ∈ p.2, (Lit.int .u8 x).wf = true) (fun p => p.2.length + 1) :=
  (Rd.slice (s := 1) (Rd.int Try.underlying5) (fun _ => rfl) (by omega) (by kernel_rfl) Try.underlying23).map id (fun _ => rfl)
    (fun p h => ⟨by have := h.1; rw [flatMap_one] at this; exact this, h.2⟩) (fun p _ => by rw [sum_one]; exact Nat.le_refl _)
theorem rd_op {H : Type} {enc : TypeId × Value → H} {w : World} : Rd enc Try.prog w 61 opNC (OpRd w) (fun o => o.text.length + 1) :=
  (Rd.struct Try.underlying61 (by kernel_rfl)
    (RdF.cons (n1 := 1) (Rd.int Try.underlying3) rfl (by kernel_rfl) (RdF.cons (n1 := 1) (Rd.int Try.underlying3) rfl (by kernel_rfl) (RdF.cons (n1 := 1) (Rd.int Try.underlying3) rfl (by kernel_rfl)
      (RdF.cons (n1 := 1) (Rd.int Try.underlying3) rfl (by kernel_rfl) (RdF.cons (n1 := 1) rd_text rfl (by kernel_rfl) RdF.nil)))))).map
    (fun p => (⟨p.1, p.2.1, p.2.2.1, p.2.2.2.1, p.2.2.2.2.1.1, p.2.2.2.2.1.2⟩ : OpN)) (fun _ => rfl)
    (fun p h => ⟨h.2.2.2.2.1.1, h.2.2.2.2.1.2⟩) (fun p _ => by simp; omega)
theorem rd_ops {H : Type} {enc : TypeId × Value → H} {w : World} : Rd enc Try.prog w 51 (fun p : Value × List OpN => [p.1])
    (fun p => Reads w 5 p.1 p.2.length (p.2.flatMap opNC) ∧ ∀ o ∈ p.2, OpRd w o) (fun p => (p.2.map (fun o => o.text.length + 1)).sum) :=
  (Rd.slice (s := 5) rd_op opNC_len (by omega) (by kernel_rfl) Try.underlying51).map id (fun _ => rfl) (fun p h => h) (fun p _ => by simp)
theorem rd_case {H : Type} {enc : TypeId × Value → H} {w : World} : Rd enc Try.prog w 53 (fun p : (Int × Int × Int × Int × Int) × (Value × List FD) × Value × List OpN => [.int .i64 p.1.1, .int .i64 p.1.2.1, .int .i64 p.1.2.2.1, .int .i64 p.1.2.2.2.1, .int .i64 p.1.2.2.2.2, p.2.1.1, p.2.2.1])
    (fun p => Reads w 2 p.2.1.1 p.2.1.2.length (p.2.1.2.flatMap fateCells) ∧ Reads w 5 p.2.2.1 p.2.2.2.length (p.2.2.2.flatMap opNC) ∧ ∀ o ∈ p.2.2.2, OpRd w o) (fun p => (p.2.2.2.map (fun o => o.text.length + 1)).sum) :=
  (Rd.struct Try.underlying53 (by kernel_rfl)
    (RdF.cons (n1 := 5) rd_cfg rfl (by kernel_rfl) (RdF.cons (n1 := 1) rdp_fates rfl (by kernel_rfl) (RdF.cons (n1 := 1) rd_ops rfl (by kernel_rfl) RdF.nil)))).map
    (fun p => (p.1, p.2.1, p.2.2.1)) (fun _ => rfl) (fun p h => ⟨h.2.1, h.2.2.1⟩) (fun p _ => by simp)
theorem case_ok {w : World} {v : Value} {ops : List OpN} (h : Reads w 5 v ops.length (ops.flatMap opNC) ∧ ∀ o ∈ ops, OpRd w o) (hb : (ops.map (fun o => o.text.length + 1)).sum ≤ 1048576) : OpsOk w v ops :=
  ⟨h.1, fun o ho => by
    have h1 := h.2 o ho
    have := le_sum (fun o : OpN => o.text.length + 1) ops o ho
    exact ⟨h1.text, fun x hx => u8p_wf (h1.wf x hx), by omega⟩, Nat.le_trans (len_sum (fun o : OpN => o.text.length + 1) (fun _ => by omega) ops) hb⟩
end Go.Proofs.Ytlodiibmofeikaa
