/- pipe: a message. -/
import Derived.Test.YtlodiibmofeikaaCloneMsg
import Derived.Test.YtlodiibmofeikaaElem
import Derived.Test.YtlodiibmofeikaaBlk
namespace Go.Proofs.Ytlodiibmofeikaa
open Go.RowKit
set_option linter.unusedVariables false
set_option linter.unusedSimpArgs false

structure Msg where
  due : Int
  A : Option Addr
  n : Nat
  c : Nat
  bs : List Int
def msgCells (o : Msg) : List Value := [.int .i64 o.due, .slice o.A o.n o.c]
theorem msgCells_len (o : Msg) : (msgCells o).length = 2 := rfl
def MsgsAt (w : World) (v : Value) (l : List Msg) : Prop := Reads w 2 v l.length (l.flatMap msgCells)
theorem MsgsAt.at {w : World} {v : Value} {x : List Msg} (h : MsgsAt w v x) {k : Nat} {a : Msg} (hk : x[k]? = some a) : ∃ g p c, v = .slice (some ⟨g, p, none⟩) x.length c ∧ w.cell? ⟨g, p + k * 2, none⟩ = some (.int .i64 a.due) ∧ w.cell? ⟨g, p + k * 2 + 1, none⟩ = some (.slice a.A a.n a.c) := by
  obtain ⟨g, p, c, he, hc⟩ := Reads.elem h msgCells_len (by omega) hk
  exact ⟨g, p, c, he, hc 0 _ rfl, hc 1 _ rfl⟩
theorem msg_one : ∀ x : Msg, ∀ v ∈ msgCells x, v.oneCell' = true := by
  intro x v hv
  simp only [msgCells, List.mem_cons, List.not_mem_nil, or_false] at hv
  rcases hv with rfl | rfl <;> rfl
theorem msgs_one (l : List Msg) : ∀ u ∈ l.flatMap msgCells, u.oneCell' = true := by
  intro u hu
  obtain ⟨x, -, hx⟩ := List.mem_flatMap.1 hu
  exact msg_one x u hx
end Go.Proofs.Ytlodiibmofeikaa
