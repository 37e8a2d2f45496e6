/- clr: ClrPlays for whatever it is called with. -/
import Derived.Test.YthnnhagccemnnaaClrPlays
import Derived.Test.YthnnhagccemnnaaClrRd
namespace Go.Proofs.Ythnnhagccemnnaa
open Go.RowKit
theorem clrPlays_any (lim : Int) (v : Value) (ops : List OpD) (w : World) (h : Ops w v ops) :
    Calls Try.prog 5 #[.int .i64 lim, v] w fun e w' => e = .returned (.bool true) ∧ Below w.heap.size w w' := by
  obtain ⟨A, c, rfl⟩ := h.val
  by_cases hc : 80 < ops.length ∨ lim < 1 ∨ 1048576 < lim
  · exact clrPlays_no lim A ops.length c w hc
  · exact clrPlays_yes lim A c ops w h (by omega) (by omega) (by omega)
end Go.Proofs.Ythnnhagccemnnaa
