/- group: the cases of the laws as the rows hand them over. -/
import Derived.Test.YtbdnopimaofabaaGroupLevels
import Derived.Test.YtbdnopimaofabaaRd
namespace Go.Proofs.Ytbdnopimaofabaa
open Go.ChangeShapes Go.WideShapes Go.ChangeAt Go.RowKit
set_option linter.unusedVariables false
set_option linter.unusedSimpArgs false

theorem rd_ask {H : Type} {enc : TypeId × Value → H} {w : World} : Rd enc Try.prog w 47 askCells (fun _ => True) (fun _ => 1) :=
  (Rd.struct Try.underlying47 (by kernel_rfl)
    (RdF.cons (n1 := 1) (Rd.int Try.underlying3) rfl (by kernel_rfl) (RdF.cons (n1 := 1) (Rd.int Try.underlying3) rfl (by kernel_rfl) (RdF.cons (n1 := 1) (Rd.int Try.underlying3) rfl (by kernel_rfl) RdF.nil)))).map
    (fun p => (⟨p.1, p.2.1, p.2.2.1⟩ : AskD)) (fun _ => rfl) (fun _ _ => trivial) (fun p _ => by simp)
theorem rd_asks {H : Type} {enc : TypeId × Value → H} {w : World} : Rd enc Try.prog w 22 (fun p : Value × List AskD => [p.1]) (fun p => Asks w p.1 p.2) (fun p => (p.2.map (fun _ => 1)).sum + 1) :=
  (Rd.slice (s := 3) rd_ask askCells_len (by omega) (by kernel_rfl) Try.underlying22).map id (fun _ => rfl) (fun p h => h.1) (fun p _ => Nat.le_refl _)
theorem rd_case {H : Type} {enc : TypeId × Value → H} {w : World} : Rd enc Try.prog w 24 (fun p : Int × Int × Int × Value × List AskD => [.int .i64 p.1, .int .i64 p.2.1, .int .i64 p.2.2.1, p.2.2.2.1])
    (fun p => Asks w p.2.2.2.1 p.2.2.2.2) (fun _ => 0) :=
  (Rd.struct Try.underlying24 (by kernel_rfl)
    (RdF.cons (n1 := 1) (Rd.int Try.underlying3) rfl (by kernel_rfl) (RdF.cons (n1 := 1) (Rd.int Try.underlying3) rfl (by kernel_rfl) (RdF.cons (n1 := 1) (Rd.int Try.underlying3) rfl (by kernel_rfl)
      (RdF.cons (n1 := 1) rd_asks rfl (by kernel_rfl) RdF.nil))))).map
    (fun p => (p.1, p.2.1, p.2.2.1, p.2.2.2.1.1, p.2.2.2.1.2)) (fun _ => rfl) (fun p h => h.2.2.2.1) (fun p _ => Nat.zero_le _)

theorem groupLevels_any (n j lv later : Int) (v : Value) (asks : List AskD) (w : World) (h : Asks w v asks) :
    Calls Try.prog 3 #[.agg #[.int .i64 n, .int .i64 j, .int .i64 lv, v], .int .i64 later] w fun e w' => e = .returned (.bool true) ∧ Below w.heap.size w w' := by
  by_cases hc : CaseR n j lv asks.length ∧ 0 ≤ later ∧ later ≤ 1000
  · obtain ⟨m, rfl⟩ : ∃ m : Nat, n = m := ⟨n.toNat, by have := hc.1.1.1; omega⟩
    exact groupLevels_yes m j lv later v asks w h hc.1 hc.2.1 hc.2.2
  · obtain ⟨A, c, rfl, -⟩ := h.val
    exact groupLevels_no n j lv later A asks.length c w hc
end Go.Proofs.Ytbdnopimaofabaa
