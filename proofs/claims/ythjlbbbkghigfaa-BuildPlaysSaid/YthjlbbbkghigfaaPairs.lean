/- pairs of numbers in slices. -/
import Derived.Test.YthjlbbbkghigfaaElem
import Derived.Test.YthjlbbbkghigfaaBlk
import Derived.Test.YthjlbbbkghigfaaAppS
import Derived.Test.YthjlbbbkghigfaaCopy
namespace Go.Proofs.Ythjlbbbkghigfaa
open Go.RowKit
set_option linter.unusedVariables false
set_option linter.unusedSimpArgs false
def pairCells (x : Int × Int) : List Value := [.int .i64 x.1, .int .i64 x.2]
theorem info_pair : (Try.prog.info? 46).map (fun i => (i.zero, i.size, i.bytes)) = some (some (.agg #[.int .i64 0, .int .i64 0]), 2, 16) := by kernel_rfl
theorem pairCells_len (x : Int × Int) : (pairCells x).length = 2 := rfl
theorem pair_one : ∀ x : Int × Int, ∀ v ∈ pairCells x, v.oneCell' = true := by
  intro x v hv
  simp [pairCells] at hv
  rcases hv with rfl | rfl <;> rfl
theorem pairs_one (l : List (Int × Int)) : ∀ u ∈ l.flatMap pairCells, u.oneCell' = true := by
  intro u hu
  obtain ⟨x, -, hx⟩ := List.mem_flatMap.1 hu
  exact pair_one x u hx
theorem Reads.pair {w : World} {v : Value} {n : Nat} {l : List (Int × Int)} (h : Reads w 2 v n (l.flatMap pairCells)) {k : Nat} {x : Int × Int} (hx : l[k]? = some x) : ∃ g o c, v = .slice (some ⟨g, o, none⟩) n c ∧ w.cell? ⟨g, o + k * 2, none⟩ = some (.int .i64 x.1) ∧ w.cell? ⟨g, o + k * 2 + 1, none⟩ = some (.int .i64 x.2) := by
  obtain ⟨g, p, c, he, hc⟩ := Reads.elem h pairCells_len (by omega) hx
  exact ⟨g, p, c, he, hc 0 _ rfl, hc 1 _ rfl⟩
end Go.Proofs.Ythjlbbbkghigfaa
