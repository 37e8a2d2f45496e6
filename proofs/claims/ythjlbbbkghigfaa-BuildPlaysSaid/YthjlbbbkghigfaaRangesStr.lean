/- ranges: Stretches. -/
import Derived.Test.YthjlbbbkghigfaaRanges2
import Derived.Test.YthjlbbbkghigfaaClonePair
namespace Go.Proofs.Ythjlbbbkghigfaa
open Go.RowKit
set_option linter.unusedVariables false
set_option linter.unusedSimpArgs false

theorem str_any (b : Nat) (v : Value) (l : List (Int × Int)) (N : Int) (w : World) (h : SetAt w b v l N) (hn : l.length ≤ 100000) :
    Calls Try.prog 33 #[.pointer (some ⟨b, 0, none⟩)] w fun e w' => ∃ A c, e = .returned (.slice A l.length c) ∧ w'.ownsRow w.heap.size 46 2 (.slice A l.length c) l.length (l.flatMap pairCells) ∧ Below w.heap.size w w' := by
  have hc := clone_pair v l.length (l.flatMap pairCells) w h.rd (by omega) (pairs_one l)
  obtain ⟨A, k, rfl⟩ := h.slice
  obtain ⟨c0, c1⟩ := h.c
  have HC := Lib.hid hc
  clear h hc
  go_enter Try.func33, Try.ntmps33
  go_wp2_with fail
  refine HC.out.mono ?_
  rintro e w1 ⟨A1, c1', rfl, ho, hb, -⟩
  go_wp2
  go_ret
  exact ⟨_, _, rfl, ho, hb⟩
end Go.Proofs.Ythjlbbbkghigfaa
