/- pipe: the law's take: what its boxes hold. -/
import Derived.Test.YtijmmmgmpfhgoaaPipeAw
import Derived.Test.YtijmmmgmpfhgoaaPipeRef
namespace Go.Proofs.Ytijmmmgmpfhgoaa
open Go.RowKit Go.Shelf
set_option linter.unusedVariables false
set_option linter.unusedSimpArgs false

def ROwn (w : World) (v : Value) (X : List RM) : Prop := w.ownsRow 0 56 2 v X.length (X.flatMap rmCells)
theorem ROwn.rat {w : World} {v : Value} {X : List RM} (h : ROwn w v X) : RAt w v X := Reads.of_owns h
theorem boxes5 (w : World) (a b c d e : Array Value) (Ta Tb Tc Td Te : TypeId) :
    let w' := ((((w.alloc (.cells a Ta)).alloc (.cells b Tb)).alloc (.cells c Tc)).alloc (.cells d Td)).alloc (.cells e Te)
    Blk w' w.heap.size a Ta ∧ Blk w' (w.heap.size + 1) b Tb ∧ Blk w' (w.heap.size + 2) c Tc ∧ Blk w' (w.heap.size + 3) d Td ∧ Blk w' (w.heap.size + 4) e Te ∧ Below w.heap.size w w' ∧ w'.heap.size = w.heap.size + 5 := by
  intro w'
  have z1 : (w.alloc (.cells a Ta)).heap.size = w.heap.size + 1 := by simp
  have z2 : ((w.alloc (.cells a Ta)).alloc (.cells b Tb)).heap.size = w.heap.size + 2 := by simp
  have z3 : (((w.alloc (.cells a Ta)).alloc (.cells b Tb)).alloc (.cells c Tc)).heap.size = w.heap.size + 3 := by simp
  have z4 : ((((w.alloc (.cells a Ta)).alloc (.cells b Tb)).alloc (.cells c Tc)).alloc (.cells d Td)).heap.size = w.heap.size + 4 := by simp
  have n1 := Blk.new w a Ta
  have n2 := Blk.new (w.alloc (.cells a Ta)) b Tb
  have n3 := Blk.new ((w.alloc (.cells a Ta)).alloc (.cells b Tb)) c Tc
  have n4 := Blk.new (((w.alloc (.cells a Ta)).alloc (.cells b Tb)).alloc (.cells c Tc)) d Td
  have n5 := Blk.new ((((w.alloc (.cells a Ta)).alloc (.cells b Tb)).alloc (.cells c Tc)).alloc (.cells d Td)) e Te
  rw [z1] at n2
  rw [z2] at n3
  rw [z3] at n4
  rw [z4] at n5
  refine ⟨(((n1.alloc _).alloc _).alloc _).alloc _, ((n2.alloc _).alloc _).alloc _, (n3.alloc _).alloc _, n4.alloc _, n5, ?_, by simp [w']⟩
  exact (((((Below.refl _ w).alloc (Nat.le_refl _) _).alloc (by omega) _).alloc (by omega) _).alloc (by omega) _).alloc (by omega) _
theorem keep_turn {S : Nat → Prop} {w W : World} {q : Nat} {o' : Obj} (h : Keep S w W) (hq : w.heap.size ≤ q) : Keep S w (W.putObj q o') :=
  ⟨h.os, h.tape, h.output, by have := h.size; simpa using this, fun k hk hn => (World.putObj_heap_other (by omega)).trans (h.block k hk hn)⟩
/-- one byte of a row of its own is set -/
theorem bytes_set {w : World} {base n c g : Nat} {xs : List Value} (h : w.ownsRow base 5 1 (.slice (some ⟨g, 0, none⟩) n c) n xs) {j : Nat} (hj : j < n) (u : Value) :
    (w.setCell ⟨g, j, none⟩ u).ownsRow base 5 1 (.slice (some ⟨g, 0, none⟩) n c) n (xs.set j u) := by
  obtain ⟨hl, hh⟩ := h
  rcases hh with ⟨hv, _⟩ | ⟨g', cap, cur, hv, hg, hb, h1, h2, h3, h4⟩
  · cases hv
  · cases hv
    refine ⟨by simpa using hl, .inr ⟨g, c, cur.setIfInBounds j u, rfl, hg, Blk.set hb j u, h1, h2, by simpa using h3, ?_⟩⟩
    rw [Array.toList_setIfInBounds, List.take_set, h4]
end Go.Proofs.Ytijmmmgmpfhgoaa
