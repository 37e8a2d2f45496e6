/- clr: ClrCopies for whatever it is called with. -/
import Derived.Test.YthnnhagccemnnaaClrCopies
import Derived.Test.YthnnhagccemnnaaClrRd
namespace Go.Proofs.Ythnnhagccemnnaa
open Go.RowKit
theorem clrCopies_any (lim : Int) (v v' : Value) (ops ops' : List OpD) (w : World) (h : Ops w v ops) (h' : Ops w v' ops') :
    Calls Try.prog 6 #[.int .i64 lim, v, v'] w fun e w' => e = .returned (.bool true) ∧ Below w.heap.size w w' := by
  obtain ⟨A, c, rfl⟩ := h.val
  obtain ⟨A', c', rfl⟩ := h'.val
  by_cases hc : 50 < ops.length ∨ 50 < ops'.length
  · exact clrCopies_no lim A A' ops.length ops'.length c c' w hc
  · by_cases hl : lim < 1 ∨ 1048576 < lim
    · exact clrCopies_none lim A A' ops.length ops'.length c c' w (by omega) (by omega) hl
    · exact clrCopies_yes lim A A' c c' ops ops' w h h' (by omega) (by omega) (by omega) (by omega)
end Go.Proofs.Ythnnhagccemnnaa
