/- What a round of a range over a function keeps: cells outside some blocks. -/
import Derived.RangeFuncNested
import Derived.RangeFuncBound
import Derived.RangeFuncCalls
import Derived.RangeFuncLeaves
import Derived.RangeFuncBox
import Derived.Shelf.Abstract
import Derived.Shelf.RegionOpen
import Derived.WalkKit
import Derived.OwnWalkIn
import Derived.TacticsInMore
import Derived.LoopNIn
import Derived.LoopIn
import Derived.Test.YtlodiibmofeikaaBlk
namespace Go.Proofs.Ytlodiibmofeikaa
open Go.RowKit Go.Shelf
set_option linter.unusedVariables false
set_option linter.unusedSimpArgs false

/-- cells outside S lie as they lay -/
def KeepC (S : Nat → Prop) (W W' : World) : Prop := W.heap.size ≤ W'.heap.size ∧ ∀ k cs T, ¬ S k → W.heap[k]? = some (.cells cs T) → W'.heap[k]? = some (.cells cs T)
theorem KeepC.trans {S : Nat → Prop} {A B C : World} (h : KeepC S A B) (k : KeepC S B C) : KeepC S A C := ⟨Nat.le_trans h.1 k.1, fun i cs T hi h1 => k.2 i cs T hi (h.2 i cs T hi h1)⟩
theorem KeepC.refl (S : Nat → Prop) (W : World) : KeepC S W W := ⟨Nat.le_refl _, fun _ _ _ _ h => h⟩
theorem KeepC.blk {S : Nat → Prop} {W W' : World} (h : KeepC S W W') {b : Nat} {cs : Array Value} {T : TypeId} (hb : Blk W b cs T) (hs : ¬ S b) : Blk W' b cs T := h.2 b cs T hs hb
theorem keepC_b {S : Nat → Prop} {w : World} (W : World) (l : Nat) (o o' : Obj) (_ : w.heap.size ≤ l) (h : W.heap[l]? = some o) (hc : o.isCells = false) (_ : o.isWalk = false) : KeepC S W (W.putObj l o') := by
  refine ⟨by simp, fun k cs T _ hk => ?_⟩
  by_cases e : k = l
  · subst e
    rw [hk] at h
    cases h
    cases hc
  · exact (World.putObj_heap_other e).trans hk
theorem KeepC.below {S : Nat → Prop} {A W W' : World} (h : KeepC S A W) (hb : Below W.heap.size W W') : KeepC S A W' := h.trans ⟨hb.size, fun k cs T _ hk => (hb.block k (Array.getElem?_eq_some_iff.1 hk).1).trans hk⟩
theorem KeepC.alloc {S : Nat → Prop} {A W : World} (h : KeepC S A W) (o : Obj) : KeepC S A (W.alloc o) := h.below ((Below.refl _ W).alloc (Nat.le_refl _) o)
theorem KeepC.setCell {S : Nat → Prop} {A W : World} (h : KeepC S A W) {p : Addr} (hp : S p.block) (u : Value) : KeepC S A (W.setCell p u) :=
  ⟨by simpa using h.1, fun k cs T hk hA => (Below.heap_setCell _ _ _ _ (fun e => hk (by rw [e]; exact hp))).trans (h.2 k cs T hk hA)⟩
theorem keepsOthers_below {A W W' : World} (h : KeepsOthers A W) (hb : Below W.heap.size W W') : KeepsOthers A W' := h.trans ⟨hb.size, fun k o hk _ => (hb.block k (Array.getElem?_eq_some_iff.1 hk).1).trans hk⟩
theorem grown_below {W W' : World} (hb : Below W.heap.size W W') : W.grownBy W' none := ⟨hb.os, hb.tape, hb.output, hb.size, fun k hk _ => hb.block k hk⟩
theorem ownFrom_blk {β : Type} (B : Nat) (b : β → Nat) (cs : β → Array Value) (T : TypeId) : OwnFrom B (fun s W => Blk W (b s) (cs s) T) := fun s W W' row hs hg hr => by
  have h : W'.heap[b s]? = W.heap[b s]? := hg.block (b s) hs.lt (fun e => by
    obtain ⟨_, o, ho, hc⟩ := hr (b s) e.symm
    have h2 : W.heap[b s]? = some (.cells (cs s) T) := hs
    rw [h2] at ho; cases ho; cases hc)
  exact h.trans hs
end Go.Proofs.Ytlodiibmofeikaa
