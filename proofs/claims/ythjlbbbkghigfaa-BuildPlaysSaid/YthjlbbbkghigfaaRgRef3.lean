/- ranges: the law's reference: Stretches. -/
import Derived.Test.YthjlbbbkghigfaaRgRef2
import Derived.Test.YthjlbbbkghigfaaApp2
import Derived.Test.YthjlbbbkghigfaaRanges11
namespace Go.Proofs.Ythjlbbbkghigfaa
open Go.RowKit
set_option linter.unusedVariables false
set_option linter.unusedSimpArgs false

theorem flat_last {S : List (Int × Int)} {x : Int × Int} {k : Nat} (hk : S.length = k) (u : Int) : ((S ++ [x]).flatMap pairCells).set (k * 2 + 1) (.int .i64 u) = (S ++ [(x.1, u)]).flatMap pairCells := by
  have hl : (S.flatMap pairCells).length = k * 2 := by rw [flatMap_length pairCells_len, hk]
  rw [List.flatMap_append, List.flatMap_append, List.set_append_right _ _ (show (S.flatMap pairCells).length ≤ k * 2 + 1 by omega), hl, Nat.add_sub_cancel_left]
  rfl
end Go.Proofs.Ythjlbbbkghigfaa
