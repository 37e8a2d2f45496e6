/- what a row hands over: pairs of numbers. -/
import Derived.Test.YtddoefkojlghnaaRd
import Derived.OpenShut
namespace Go.Proofs.Ytddoefkojlghnaa
open Go.ChangeShapes Go.WideShapes Go.ChangeAt Go.RowKit
set_option linter.unusedVariables false
set_option linter.unusedSimpArgs false
theorem Rd.pair {H : Type} {enc : TypeId × Value → H} {P : Program} {w : World} {t e : TypeId} (ht : P.underlying t = some (.array 2 e)) (he : P.underlying e = some (.int .i64)) (hc : P.cellsOf t = 2) (hce : P.cellsOf e = 1) :
    Rd enc P w t (fun x : Int × Int => [.int .i64 x.1, .int .i64 x.2]) (fun x => (Lit.int .i64 x.1).wf = true ∧ (Lit.int .i64 x.2).wf = true) (fun _ => 1) := by
  intro fuel cs y h
  obtain ⟨xs, n, rfl, rfl, hl, hx, hf⟩ := DataW.trod_array ht h
  rw [hc] at hl
  rw [hce] at hf
  match cs, hl with
  | [a, b], _ =>
    match xs, hx with
    | [y0, y1], _ =>
      obtain ⟨n0, e0, k0, z0⟩ := Rd.int (enc := enc) (w := w) he n _ y0 (by simpa using hf 0 (by omega))
      obtain ⟨n1, e1, k1, z1⟩ := Rd.int (enc := enc) (w := w) he n _ y1 (by simpa using hf 1 (by omega))
      refine ⟨(n0, n1), ?_, ⟨k0, k1⟩, by simp only [Rows.uptoBulk]; omega⟩
      simp at e0 e1
      rw [e0, e1]
end Go.Proofs.Ytddoefkojlghnaa
