/- Words on memory for the walks: blocks known whole, what is kept, slices that are owned. -/
import Derived.Test.YtlodiibmofeikaaRows
import Derived.WalkKit
import Derived.Deep.QuietTactic
import Derived.BigQuiet
import Derived.Lib.Hide
namespace Go.Proofs.Ytlodiibmofeikaa
open Go.RowKit
set_option linter.unusedVariables false
set_option linter.unusedSimpArgs false

/-- Blocks outside S that were there are as they were. -/
structure Keep (S : Nat → Prop) (w w' : World) : Prop where
  os : w'.os = w.os
  tape : w'.tape = w.tape
  output : w'.output = w.output
  size : w.heap.size ≤ w'.heap.size
  block : ∀ k, k < w.heap.size → ¬ S k → w'.heap[k]? = w.heap[k]?

theorem Keep.refl (S : Nat → Prop) (w : World) : Keep S w w := ⟨rfl, rfl, rfl, Nat.le_refl _, fun _ _ _ => rfl⟩
theorem Keep.trans {S S' : Nat → Prop} {a b c : World} (h : Keep S a b) (k : Keep S' b c) (hs : ∀ k, k < a.heap.size → S' k → S k) : Keep S a c :=
  ⟨k.os.trans h.os, k.tape.trans h.tape, k.output.trans h.output, Nat.le_trans h.size k.size,
    fun i hi hn => (k.block i (Nat.lt_of_lt_of_le hi h.size) (fun e => hn (hs i hi e))).trans (h.block i hi hn)⟩
theorem Keep.mono {S S' : Nat → Prop} {a b : World} (h : Keep S a b) (hs : ∀ k, k < a.heap.size → S k → S' k) : Keep S' a b :=
  ⟨h.os, h.tape, h.output, h.size, fun i hi hn => h.block i hi (fun e => hn (hs i hi e))⟩
theorem Keep.drew {S : Nat → Prop} {a w : World} (h : Keep S a w) : Keep S a w.drew := ⟨h.os, h.tape, h.output, h.size, h.block⟩
theorem Keep.drewN {S : Nat → Prop} {a w : World} (h : Keep S a w) (n : Nat) : Keep S a (w.drewN n) := ⟨h.os, h.tape, h.output, h.size, h.block⟩
theorem Keep.alloc {S : Nat → Prop} {a w : World} (h : Keep S a w) (o : Obj) : Keep S a (w.alloc o) :=
  ⟨h.os, h.tape, h.output, by have := h.size; simp; omega, fun k hk hn => (Below.heap_alloc _ _ _ (Nat.lt_of_lt_of_le hk h.size)).trans (h.block k hk hn)⟩
theorem Keep.setCell {S : Nat → Prop} {a w : World} (h : Keep S a w) {p : Addr} (hp : S p.block ∨ a.heap.size ≤ p.block) (u : Value) : Keep S a (w.setCell p u) :=
  ⟨h.os, h.tape, h.output, by have := h.size; simpa [World.setCell] using this, fun k hk hn => (Below.heap_setCell _ _ _ _ (fun e => by
    subst e
    rcases hp with hp | hp
    · exact hn hp
    · omega)).trans (h.block k hk hn)⟩
theorem Keep.ofBelow {B : Nat} {w w' : World} (h : Below B w w') : Keep (fun k => B ≤ k) w w' :=
  ⟨h.os, h.tape, h.output, h.size, fun k _ hn => h.block k (by omega)⟩
theorem Keep.ofBelowAll {S : Nat → Prop} {w w' : World} (h : Below w.heap.size w w') : Keep S w w' :=
  ⟨h.os, h.tape, h.output, h.size, fun k hk _ => h.block k hk⟩
theorem Keep.below {B : Nat} {S : Nat → Prop} {w w' : World} (h : Keep S w w') (hs : ∀ k, S k → B ≤ k) (hB : B ≤ w.heap.size) : Below B w w' :=
  ⟨h.os, h.tape, h.output, h.size, fun k hk => h.block k (by omega) (fun e => by have := hs k e; omega)⟩
theorem Keep.grown {S : Nat → Prop} {a w w' : World} {row : Option Nat} (h : Keep S a w) (hg : w.grownBy w' row) (hr : ∀ k, row = some k → S k ∨ a.heap.size ≤ k) : Keep S a w' :=
  h.trans (S' := fun k => row = some k) ⟨hg.os, hg.tape, hg.output, hg.size, fun k hk hn => hg.block k hk (fun e => hn e.symm)⟩
    (fun k hk e => (hr k e).resolve_right (by omega))
theorem below_drewN {B : Nat} {a w : World} (h : Below B a w) (n : Nat) : Below B a (w.drewN n) := ⟨h.os, h.tape, h.output, h.size, h.block⟩
theorem bmore {B B' : Nat} {a w w' : World} (h : Below B a w) (k : Below B' w w') (hB : B ≤ B') : Below B a w' := h.trans (k.mono hB)
theorem bkeep {B : Nat} {S : Nat → Prop} {a w w' : World} (h : Below B a w) (k : Keep S w w') (hB : B ≤ a.heap.size) (hs : ∀ k, S k → B ≤ k) : Below B a w' :=
  h.trans (k.below hs (Nat.le_trans hB h.size))
theorem Keep.cell {S : Nat → Prop} {w w' : World} (h : Keep S w w') {p : Addr} (hp : p.block < w.heap.size) (hn : ¬ S p.block) : w'.cell? p = w.cell? p :=
  World.cell?_of_block (w := w) (h.block p.block hp hn)
theorem Keep.frozen {S : Nat → Prop} {w w' : World} (h : Keep S w w') {p : Addr} (hp : p.block < w.heap.size) (hn : ¬ S p.block) : w'.frozen? p = w.frozen? p :=
  World.frozen?_of_block (w := w) (h.block p.block hp hn)

/-- Block b is known whole; none of its cells is frozen. -/
def Blk (w : World) (b : Nat) (cs : Array Value) (T : TypeId) : Prop := w.heap[b]? = some (.cells cs T (0, 0))
theorem Blk.lt {w : World} {b : Nat} {cs : Array Value} {T : TypeId} (h : Blk w b cs T) : b < w.heap.size := (Array.getElem?_eq_some_iff.1 h).1
theorem Blk.cell {w : World} {b : Nat} {cs : Array Value} {T : TypeId} (h : Blk w b cs T) (o : Nat) {v : Value} (hv : cs[o]? = some v) : w.cell? ⟨b, o, none⟩ = some v := by
  unfold Blk at h; simp [World.cell?, h, hv]
theorem Blk.frozen {w : World} {b : Nat} {cs : Array Value} {T : TypeId} (h : Blk w b cs T) (o : Nat) : w.frozen? ⟨b, o, none⟩ = false := by
  unfold Blk at h; simp [World.frozen?, h]
theorem Blk.keep {S : Nat → Prop} {w w' : World} {b : Nat} {cs : Array Value} {T : TypeId} (h : Blk w b cs T) (hk : Keep S w w') (hn : ¬ S b) : Blk w' b cs T :=
  (hk.block b h.lt hn).trans h
theorem Blk.drewN {w : World} {b : Nat} {cs : Array Value} {T : TypeId} (h : Blk w b cs T) (n : Nat) : Blk (w.drewN n) b cs T := h
theorem Blk.drew {w : World} {b : Nat} {cs : Array Value} {T : TypeId} (h : Blk w b cs T) : Blk w.drew b cs T := h
theorem Blk.alloc {w : World} {b : Nat} {cs : Array Value} {T : TypeId} (h : Blk w b cs T) (o : Obj) : Blk (w.alloc o) b cs T :=
  (Below.heap_alloc _ _ _ h.lt).trans h
theorem Blk.new (w : World) (cs : Array Value) (T : TypeId) : Blk (w.alloc (.cells cs T)) w.heap.size cs T := heap_alloc_new w _
theorem Blk.setOther {w : World} {b : Nat} {cs : Array Value} {T : TypeId} (h : Blk w b cs T) {p : Addr} (hp : b ≠ p.block) (u : Value) : Blk (w.setCell p u) b cs T :=
  (Below.heap_setCell _ _ _ _ hp).trans h
theorem Blk.set {w : World} {b : Nat} {cs : Array Value} {T : TypeId} (h : Blk w b cs T) (o : Nat) (u : Value) : Blk (w.setCell ⟨b, o, none⟩ u) b (cs.setIfInBounds o u) T := by
  unfold Blk at h ⊢
  have hb := (Array.getElem?_eq_some_iff.1 h).1
  simp only [World.setCell, Array.getElem?_modify, if_true, h]
  rfl
theorem Blk.set' {w : World} {b : Nat} {cs cs' : Array Value} {T : TypeId} (h : Blk w b cs T) {o : Nat} {u : Value} (e : cs.setIfInBounds o u = cs') : Blk (w.setCell ⟨b, o, none⟩ u) b cs' T := e ▸ h.set o u

theorem ret_bool {a b : Bool} (h : a = b) : Ending.returned (Value.bool a) = Ending.returned (Value.bool b) := by rw [h]
theorem ret_int {k : IntKind} {a b : Int} (h : a = b) : Ending.returned (Value.int k a) = Ending.returned (Value.int k b) := by rw [h]
theorem ownsRow_keep {S : Nat → Prop} {w w' : World} {base : Nat} {e : TypeId} {size : Nat} {v : Value} {n : Nat} {xs : List Value} (h : w.ownsRow base e size v n xs)
    (hk : Keep S w w') (hn : ∀ g, v.ownBlock = some g → ¬ S g) : w'.ownsRow base e size v n xs := by
  refine ⟨h.1, ?_⟩
  rcases h.2 with h2 | ⟨g, cap, cur, hv, hg, hh, r⟩
  · exact Or.inl h2
  · refine Or.inr ⟨g, cap, cur, hv, hg, ?_, r⟩
    rw [hk.block g (Array.getElem?_eq_some_iff.1 hh).1 (hn g (by rw [hv]; rfl))]
    exact hh
theorem ownsRow_drewN {w : World} {base : Nat} {e : TypeId} {size : Nat} {v : Value} {n : Nat} {xs : List Value} (h : w.ownsRow base e size v n xs) (m : Nat) : (w.drewN m).ownsRow base e size v n xs := h
theorem ownsRow_base {w : World} {base base' : Nat} {e : TypeId} {size : Nat} {v : Value} {n : Nat} {xs : List Value} (h : w.ownsRow base e size v n xs) (hb : base' ≤ base) : w.ownsRow base' e size v n xs := by
  refine ⟨h.1, ?_⟩
  rcases h.2 with h2 | ⟨g, cap, cur, hv, hg, r⟩
  · exact Or.inl h2
  · exact Or.inr ⟨g, cap, cur, hv, by omega, r⟩

theorem ownsRow_slice {w : World} {base : Nat} {e : TypeId} {size : Nat} {v : Value} {n : Nat} {xs : List Value} (h : w.ownsRow base e size v n xs) : ∃ A c, v = .slice A n c := by
  rcases h.2 with ⟨rfl, rfl⟩ | ⟨g, cap, cur, rfl, r⟩
  · exact ⟨_, _, rfl⟩
  · exact ⟨_, _, rfl⟩

/-- blocks made between two sizes of the heap -/
def Btw (a b : Nat) : Nat → Prop := fun k => a ≤ k ∧ k < b
theorem Keep.none {w w' : World} (h : Below w.heap.size w w') : Keep (fun _ => False) w w' := Keep.ofBelowAll h
theorem ownsRow_cell {w : World} {base : Nat} {e : TypeId} {size : Nat} {a : Addr} {n m c : Nat} {xs : List Value} (h : w.ownsRow base e size (.slice (some a) m c) n xs) {j : Nat} {u : Value} (hu : xs[j]? = some u) : w.cell? ⟨a.block, j, none⟩ = some u := by
  rcases h.2 with ⟨hv, _⟩ | ⟨g, cap, cur, hv, hg, hh, h1, h2, h3, h4⟩
  · cases hv
  · cases hv
    rw [cell_of_row w g j cur e (0, 0) hh]
    rw [← h4, List.getElem?_take] at hu
    split at hu
    · simpa using hu
    · cases hu
theorem ownsRow_frozen {w : World} {base : Nat} {e : TypeId} {size : Nat} {a : Addr} {n m c : Nat} {xs : List Value} (h : w.ownsRow base e size (.slice (some a) m c) n xs) (j : Nat) : w.frozen? ⟨a.block, j, none⟩ = false := by
  rcases h.2 with ⟨hv, _⟩ | ⟨g, cap, cur, hv, hg, hh, h1, h2, h3, h4⟩
  · cases hv
  · cases hv
    exact Blk.frozen (T := e) hh j
theorem ownsRow_set {w : World} {base : Nat} {e : TypeId} {size : Nat} {g n m c : Nat} {xs : List Value} (h : w.ownsRow base e size (.slice (some ⟨g, 0, none⟩) m c) n xs) {j : Nat} (hj : j < xs.length) (u : Value) :
    (w.setCell ⟨g, j, none⟩ u).ownsRow base e size (.slice (some ⟨g, 0, none⟩) m c) n (xs.set j u) := by
  refine ⟨by rw [List.length_set]; exact h.1, ?_⟩
  rcases h.2 with ⟨hv, _⟩ | ⟨g', cap, cur, hv, hg, hh, h1, h2, h3, h4⟩
  · cases hv
  · cases hv
    refine .inr ⟨g, c, _, rfl, hg, Blk.set (T := e) hh j u, h1, h2, by simpa using h3, ?_⟩
    rw [Array.toList_setIfInBounds, ← h4]
    have hl : j < n * size := by rw [← h.1]; exact hj
    rw [List.take_set, h4]

/-- A slice value that reads as a flat list of cells (n elements of size cells each), wherever it lies. -/
structure Reads (w : World) (size : Nat) (v : Value) (n : Nat) (xs : List Value) : Prop where
  len : xs.length = n * size
  val : ∃ A c, v = .slice A n c ∧ n ≤ c ∧ c ≤ maxLen ∧ (A = none → n = 0 ∧ c = 0) ∧ (∀ a, A = some a → 0 < n → a.spot = none ∧ a.block < w.heap.size) ∧
    ∀ j u, xs[j]? = some u → ∃ a, A = some a ∧ w.cell? ⟨a.block, a.off + j, none⟩ = some u

theorem Reads.pos {w : World} {size : Nat} {v : Value} {n : Nat} {xs : List Value} (h : Reads w size v n xs) {j : Nat} {u : Value} (hu : xs[j]? = some u) : 0 < n := by
  rcases Nat.eq_zero_or_pos n with rfl | h0
  · have := h.len
    rw [Nat.zero_mul] at this
    rw [List.eq_nil_of_length_eq_zero this] at hu
    simp at hu
  · exact h0
/-- a cell of what is read -/
theorem Reads.at {w : World} {size : Nat} {v : Value} {n : Nat} {xs : List Value} (h : Reads w size v n xs) (j : Nat) (u : Value) (hu : xs[j]? = some u) : ∃ b o c, v = .slice (some ⟨b, o, none⟩) n c ∧ w.cell? ⟨b, o + j, none⟩ = some u := by
  have h0 := h.pos hu
  obtain ⟨A, c, rfl, h1, h2, h3, h4, h5⟩ := h.val
  obtain ⟨a, rfl, hc⟩ := h5 j u hu
  obtain ⟨b, o, sp⟩ := a
  have := (h4 _ rfl h0).1
  simp only at this
  subst this
  exact ⟨b, o, c, rfl, hc⟩
theorem Reads.keep {S : Nat → Prop} {w w' : World} {size : Nat} {v : Value} {n : Nat} {xs : List Value} (h : Reads w size v n xs) (hk : Keep S w w')
    (hn : ∀ g, v.ownBlock = some g → 0 < n → ¬ S g) : Reads w' size v n xs := by
  have hp := @h.pos
  obtain ⟨hl, A, c, rfl, h1, h2, h3, h4, h5⟩ := h
  refine ⟨hl, A, c, rfl, h1, h2, h3, fun a ha h0 => ⟨(h4 a ha h0).1, Nat.lt_of_lt_of_le (h4 a ha h0).2 hk.size⟩, fun j u hu => ?_⟩
  obtain ⟨a, rfl, hc⟩ := h5 j u hu
  exact ⟨a, rfl, (hk.cell (p := ⟨a.block, a.off + j, none⟩) (h4 a rfl (hp hu)).2 (hn _ rfl (hp hu))).trans hc⟩
theorem Reads.drewN {w : World} {size : Nat} {v : Value} {n : Nat} {xs : List Value} (h : Reads w size v n xs) (m : Nat) : Reads (w.drewN m) size v n xs :=
  h.keep ((Keep.refl (fun _ => False) w).drewN m) (fun _ _ _ => id)
theorem Reads.lt {w : World} {size : Nat} {v : Value} {n : Nat} {xs : List Value} (h : Reads w size v n xs) : ∀ g, v.ownBlock = some g → 0 < n → g < w.heap.size := by
  intro g hg h0
  obtain ⟨A, c, rfl, h1, h2, h3, h4, h5⟩ := h.val
  cases A with
  | none => simp [Value.ownBlock] at hg
  | some a =>
    simp [Value.ownBlock] at hg
    subst hg
    exact (h4 a rfl h0).2
/-- what was there when the call began still reads so -/
theorem Reads.below {w w' : World} {size : Nat} {v : Value} {n : Nat} {xs : List Value} (h : Reads w size v n xs) (hk : Below w.heap.size w w') : Reads w' size v n xs :=
  h.keep (Keep.none hk) (fun _ _ _ => id)
theorem Reads.alloc {w : World} {size : Nat} {v : Value} {n : Nat} {xs : List Value} (h : Reads w size v n xs) (o : Obj) : Reads (w.alloc o) size v n xs :=
  h.keep ((Keep.refl (fun _ => False) w).alloc o) (fun _ _ _ => id)
theorem Reads.of_owns {w : World} {base : Nat} {e : TypeId} {size : Nat} {v : Value} {n : Nat} {xs : List Value} (h : w.ownsRow base e size v n xs) : Reads w size v n xs := by
  refine ⟨h.1, ?_⟩
  rcases h.2 with ⟨rfl, rfl⟩ | ⟨g, cap, cur, rfl, hg, hh, h1, h2, h3, h4⟩
  · refine ⟨none, 0, rfl, Nat.le_refl _, Nat.zero_le _, fun _ => ⟨rfl, rfl⟩, fun a ha _ => (by cases ha), fun j u hu => ?_⟩
    have := h.1
    simp at this
    subst this
    simp at hu
  · refine ⟨_, cap, rfl, h1, h2, fun ha => (by cases ha), fun a ha _ => ?_, fun j u hu => ⟨_, rfl, ?_⟩⟩
    · cases ha
      exact ⟨rfl, (Array.getElem?_eq_some_iff.1 hh).1⟩
    · rw [Nat.zero_add, cell_of_row w g j cur e (0, 0) hh]
      rw [← h4, List.getElem?_take] at hu
      split at hu
      · simpa using hu
      · cases hu
theorem Reads.new (w : World) (cs : Array Value) (E : TypeId) (n size : Nat) (h : cs.size = n * size) (hn : n ≤ 1000000) : Reads (w.alloc (.cells cs E)) size (.slice (some ⟨w.heap.size, 0, none⟩) n n) n cs.toList :=
  ⟨by simpa using h, _, n, rfl, Nat.le_refl _, by unfold maxLen; omega, fun ha => (by cases ha), fun a ha _ => by cases ha; exact ⟨rfl, by simp⟩, fun j u hu => ⟨_, rfl, by
    rw [Nat.zero_add, cell_of_row _ _ _ _ _ _ (heap_alloc_new w _)]; simpa using hu⟩⟩
theorem Reads.nil (w : World) (size : Nat) : Reads w size (.slice none 0 0) 0 [] :=
  ⟨by simp, none, 0, rfl, Nat.le_refl _, Nat.zero_le _, fun _ => ⟨rfl, rfl⟩, fun a ha _ => (by cases ha), fun j u hu => (by simp at hu)⟩
end Go.Proofs.Ytlodiibmofeikaa
