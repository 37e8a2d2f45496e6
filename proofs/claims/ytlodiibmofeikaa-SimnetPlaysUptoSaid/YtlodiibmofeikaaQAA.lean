/- Words on memory for the walks: blocks known whole, what is kept, slices that are owned. -/
import Derived.Test.YtlodiibmofeikaaRows
import Derived.WalkKit
import Derived.Deep.QuietTactic
import Derived.BigQuiet
import Derived.Lib.Hide
import Derived.ProofKit
import Derived.OpenShut
import Derived.SizedLaws
import Derived.ChangeSlices
import Derived.WalkSpells
import Derived.Lib.SliceRun
import Derived.Laws.CopyOwn
import Derived.Deep.RegionLaw
import Derived.Lib.AppendZeros
import Derived.Lib.Overlaps
import Derived.Laws.Externs
import Derived.Deep.RegionHeld3
namespace Go.Proofs.Ytlodiibmofeikaa
section
open Go.RowKit
set_option linter.unusedVariables false
set_option linter.unusedSimpArgs false

/-- Blocks outside S that were there are as they were. -/
structure Keep (S : Nat → Prop) (w w' : World) : Prop where
  os : w'.os = w.os
  tape : w'.tape = w.tape
  output : w'.output = w.output
  size : w.heap.size ≤ w'.heap.size
  block : ∀ k, k < w.heap.size → ¬ S k → w'.heap[k]? = w.heap[k]?

theorem Keep.refl (S : Nat → Prop) (w : World) : Keep S w w := ⟨rfl, rfl, rfl, Nat.le_refl _, fun _ _ _ => rfl⟩
theorem Keep.trans {S S' : Nat → Prop} {a b c : World} (h : Keep S a b) (k : Keep S' b c) (hs : ∀ k, k < a.heap.size → S' k → S k) : Keep S a c :=
  ⟨k.os.trans h.os, k.tape.trans h.tape, k.output.trans h.output, Nat.le_trans h.size k.size,
    fun i hi hn => (k.block i (Nat.lt_of_lt_of_le hi h.size) (fun e => hn (hs i hi e))).trans (h.block i hi hn)⟩
theorem Keep.mono {S S' : Nat → Prop} {a b : World} (h : Keep S a b) (hs : ∀ k, k < a.heap.size → S k → S' k) : Keep S' a b :=
  ⟨h.os, h.tape, h.output, h.size, fun i hi hn => h.block i hi (fun e => hn (hs i hi e))⟩
theorem Keep.drew {S : Nat → Prop} {a w : World} (h : Keep S a w) : Keep S a w.drew := ⟨h.os, h.tape, h.output, h.size, h.block⟩
theorem Keep.drewN {S : Nat → Prop} {a w : World} (h : Keep S a w) (n : Nat) : Keep S a (w.drewN n) := ⟨h.os, h.tape, h.output, h.size, h.block⟩
theorem Keep.alloc {S : Nat → Prop} {a w : World} (h : Keep S a w) (o : Obj) : Keep S a (w.alloc o) :=
  ⟨h.os, h.tape, h.output, by have := h.size; simp; omega, fun k hk hn => (Below.heap_alloc _ _ _ (Nat.lt_of_lt_of_le hk h.size)).trans (h.block k hk hn)⟩
theorem Keep.setCell {S : Nat → Prop} {a w : World} (h : Keep S a w) {p : Addr} (hp : S p.block ∨ a.heap.size ≤ p.block) (u : Value) : Keep S a (w.setCell p u) :=
  ⟨h.os, h.tape, h.output, by have := h.size; simpa [World.setCell] using this, fun k hk hn => (Below.heap_setCell _ _ _ _ (fun e => by
    subst e
    rcases hp with hp | hp
    · exact hn hp
    · omega)).trans (h.block k hk hn)⟩
theorem Keep.ofBelow {B : Nat} {w w' : World} (h : Below B w w') : Keep (fun k => B ≤ k) w w' :=
  ⟨h.os, h.tape, h.output, h.size, fun k _ hn => h.block k (by omega)⟩
theorem Keep.ofBelowAll {S : Nat → Prop} {w w' : World} (h : Below w.heap.size w w') : Keep S w w' :=
  ⟨h.os, h.tape, h.output, h.size, fun k hk _ => h.block k hk⟩
theorem Keep.below {B : Nat} {S : Nat → Prop} {w w' : World} (h : Keep S w w') (hs : ∀ k, S k → B ≤ k) (hB : B ≤ w.heap.size) : Below B w w' :=
  ⟨h.os, h.tape, h.output, h.size, fun k hk => h.block k (by omega) (fun e => by have := hs k e; omega)⟩
theorem Keep.grown {S : Nat → Prop} {a w w' : World} {row : Option Nat} (h : Keep S a w) (hg : w.grownBy w' row) (hr : ∀ k, row = some k → S k ∨ a.heap.size ≤ k) : Keep S a w' :=
  h.trans (S' := fun k => row = some k) ⟨hg.os, hg.tape, hg.output, hg.size, fun k hk hn => hg.block k hk (fun e => hn e.symm)⟩
    (fun k hk e => (hr k e).resolve_right (by omega))
theorem below_drewN {B : Nat} {a w : World} (h : Below B a w) (n : Nat) : Below B a (w.drewN n) := ⟨h.os, h.tape, h.output, h.size, h.block⟩
theorem bmore {B B' : Nat} {a w w' : World} (h : Below B a w) (k : Below B' w w') (hB : B ≤ B') : Below B a w' := h.trans (k.mono hB)
theorem bkeep {B : Nat} {S : Nat → Prop} {a w w' : World} (h : Below B a w) (k : Keep S w w') (hB : B ≤ a.heap.size) (hs : ∀ k, S k → B ≤ k) : Below B a w' :=
  h.trans (k.below hs (Nat.le_trans hB h.size))
theorem Keep.cell {S : Nat → Prop} {w w' : World} (h : Keep S w w') {p : Addr} (hp : p.block < w.heap.size) (hn : ¬ S p.block) : w'.cell? p = w.cell? p :=
  World.cell?_of_block (w := w) (h.block p.block hp hn)
theorem Keep.frozen {S : Nat → Prop} {w w' : World} (h : Keep S w w') {p : Addr} (hp : p.block < w.heap.size) (hn : ¬ S p.block) : w'.frozen? p = w.frozen? p :=
  World.frozen?_of_block (w := w) (h.block p.block hp hn)

/-- Block b is known whole; none of its cells is frozen. -/
def Blk (w : World) (b : Nat) (cs : Array Value) (T : TypeId) : Prop := w.heap[b]? = some (.cells cs T (0, 0))
theorem Blk.lt {w : World} {b : Nat} {cs : Array Value} {T : TypeId} (h : Blk w b cs T) : b < w.heap.size := (Array.getElem?_eq_some_iff.1 h).1
theorem Blk.cell {w : World} {b : Nat} {cs : Array Value} {T : TypeId} (h : Blk w b cs T) (o : Nat) {v : Value} (hv : cs[o]? = some v) : w.cell? ⟨b, o, none⟩ = some v := by
  unfold Blk at h; simp [World.cell?, h, hv]
theorem Blk.frozen {w : World} {b : Nat} {cs : Array Value} {T : TypeId} (h : Blk w b cs T) (o : Nat) : w.frozen? ⟨b, o, none⟩ = false := by
  unfold Blk at h; simp [World.frozen?, h]
theorem Blk.keep {S : Nat → Prop} {w w' : World} {b : Nat} {cs : Array Value} {T : TypeId} (h : Blk w b cs T) (hk : Keep S w w') (hn : ¬ S b) : Blk w' b cs T :=
  (hk.block b h.lt hn).trans h
theorem Blk.drewN {w : World} {b : Nat} {cs : Array Value} {T : TypeId} (h : Blk w b cs T) (n : Nat) : Blk (w.drewN n) b cs T := h
theorem Blk.drew {w : World} {b : Nat} {cs : Array Value} {T : TypeId} (h : Blk w b cs T) : Blk w.drew b cs T := h
theorem Blk.alloc {w : World} {b : Nat} {cs : Array Value} {T : TypeId} (h : Blk w b cs T) (o : Obj) : Blk (w.alloc o) b cs T :=
  (Below.heap_alloc _ _ _ h.lt).trans h
theorem Blk.new (w : World) (cs : Array Value) (T : TypeId) : Blk (w.alloc (.cells cs T)) w.heap.size cs T := heap_alloc_new w _
theorem Blk.setOther {w : World} {b : Nat} {cs : Array Value} {T : TypeId} (h : Blk w b cs T) {p : Addr} (hp : b ≠ p.block) (u : Value) : Blk (w.setCell p u) b cs T :=
  (Below.heap_setCell _ _ _ _ hp).trans h
theorem Blk.set {w : World} {b : Nat} {cs : Array Value} {T : TypeId} (h : Blk w b cs T) (o : Nat) (u : Value) : Blk (w.setCell ⟨b, o, none⟩ u) b (cs.setIfInBounds o u) T := by
  unfold Blk at h ⊢
  have hb := (Array.getElem?_eq_some_iff.1 h).1
  simp only [World.setCell, Array.getElem?_modify, if_true, h]
  rfl
theorem Blk.set' {w : World} {b : Nat} {cs cs' : Array Value} {T : TypeId} (h : Blk w b cs T) {o : Nat} {u : Value} (e : cs.setIfInBounds o u = cs') : Blk (w.setCell ⟨b, o, none⟩ u) b cs' T := e ▸ h.set o u

theorem ret_bool {a b : Bool} (h : a = b) : Ending.returned (Value.bool a) = Ending.returned (Value.bool b) := by rw [h]
theorem ret_int {k : IntKind} {a b : Int} (h : a = b) : Ending.returned (Value.int k a) = Ending.returned (Value.int k b) := by rw [h]
theorem ownsRow_keep {S : Nat → Prop} {w w' : World} {base : Nat} {e : TypeId} {size : Nat} {v : Value} {n : Nat} {xs : List Value} (h : w.ownsRow base e size v n xs)
    (hk : Keep S w w') (hn : ∀ g, v.ownBlock = some g → ¬ S g) : w'.ownsRow base e size v n xs := by
  refine ⟨h.1, ?_⟩
  rcases h.2 with h2 | ⟨g, cap, cur, hv, hg, hh, r⟩
  · exact Or.inl h2
  · refine Or.inr ⟨g, cap, cur, hv, hg, ?_, r⟩
    rw [hk.block g (Array.getElem?_eq_some_iff.1 hh).1 (hn g (by rw [hv]; rfl))]
    exact hh
theorem ownsRow_drewN {w : World} {base : Nat} {e : TypeId} {size : Nat} {v : Value} {n : Nat} {xs : List Value} (h : w.ownsRow base e size v n xs) (m : Nat) : (w.drewN m).ownsRow base e size v n xs := h
theorem ownsRow_base {w : World} {base base' : Nat} {e : TypeId} {size : Nat} {v : Value} {n : Nat} {xs : List Value} (h : w.ownsRow base e size v n xs) (hb : base' ≤ base) : w.ownsRow base' e size v n xs := by
  refine ⟨h.1, ?_⟩
  rcases h.2 with h2 | ⟨g, cap, cur, hv, hg, r⟩
  · exact Or.inl h2
  · exact Or.inr ⟨g, cap, cur, hv, by omega, r⟩

theorem ownsRow_slice {w : World} {base : Nat} {e : TypeId} {size : Nat} {v : Value} {n : Nat} {xs : List Value} (h : w.ownsRow base e size v n xs) : ∃ A c, v = .slice A n c := by
  rcases h.2 with ⟨rfl, rfl⟩ | ⟨g, cap, cur, rfl, r⟩
  · exact ⟨_, _, rfl⟩
  · exact ⟨_, _, rfl⟩

/-- blocks made between two sizes of the heap -/
def Btw (a b : Nat) : Nat → Prop := fun k => a ≤ k ∧ k < b
theorem Keep.none {w w' : World} (h : Below w.heap.size w w') : Keep (fun _ => False) w w' := Keep.ofBelowAll h
theorem ownsRow_cell {w : World} {base : Nat} {e : TypeId} {size : Nat} {a : Addr} {n m c : Nat} {xs : List Value} (h : w.ownsRow base e size (.slice (some a) m c) n xs) {j : Nat} {u : Value} (hu : xs[j]? = some u) : w.cell? ⟨a.block, j, none⟩ = some u := by
  rcases h.2 with ⟨hv, _⟩ | ⟨g, cap, cur, hv, hg, hh, h1, h2, h3, h4⟩
  · cases hv
  · cases hv
    rw [cell_of_row w g j cur e (0, 0) hh]
    rw [← h4, List.getElem?_take] at hu
    split at hu
    · simpa using hu
    · cases hu
theorem ownsRow_frozen {w : World} {base : Nat} {e : TypeId} {size : Nat} {a : Addr} {n m c : Nat} {xs : List Value} (h : w.ownsRow base e size (.slice (some a) m c) n xs) (j : Nat) : w.frozen? ⟨a.block, j, none⟩ = false := by
  rcases h.2 with ⟨hv, _⟩ | ⟨g, cap, cur, hv, hg, hh, h1, h2, h3, h4⟩
  · cases hv
  · cases hv
    exact Blk.frozen (T := e) hh j
theorem ownsRow_set {w : World} {base : Nat} {e : TypeId} {size : Nat} {g n m c : Nat} {xs : List Value} (h : w.ownsRow base e size (.slice (some ⟨g, 0, none⟩) m c) n xs) {j : Nat} (hj : j < xs.length) (u : Value) :
    (w.setCell ⟨g, j, none⟩ u).ownsRow base e size (.slice (some ⟨g, 0, none⟩) m c) n (xs.set j u) := by
  refine ⟨by rw [List.length_set]; exact h.1, ?_⟩
  rcases h.2 with ⟨hv, _⟩ | ⟨g', cap, cur, hv, hg, hh, h1, h2, h3, h4⟩
  · cases hv
  · cases hv
    refine .inr ⟨g, c, _, rfl, hg, Blk.set (T := e) hh j u, h1, h2, by simpa using h3, ?_⟩
    rw [Array.toList_setIfInBounds, ← h4]
    have hl : j < n * size := by rw [← h.1]; exact hj
    rw [List.take_set, h4]

/-- A slice value that reads as a flat list of cells (n elements of size cells each), wherever it lies. -/
structure Reads (w : World) (size : Nat) (v : Value) (n : Nat) (xs : List Value) : Prop where
  len : xs.length = n * size
  val : ∃ A c, v = .slice A n c ∧ n ≤ c ∧ c ≤ maxLen ∧ (A = none → n = 0 ∧ c = 0) ∧ (∀ a, A = some a → 0 < n → a.spot = none ∧ a.block < w.heap.size) ∧
    ∀ j u, xs[j]? = some u → ∃ a, A = some a ∧ w.cell? ⟨a.block, a.off + j, none⟩ = some u

theorem Reads.pos {w : World} {size : Nat} {v : Value} {n : Nat} {xs : List Value} (h : Reads w size v n xs) {j : Nat} {u : Value} (hu : xs[j]? = some u) : 0 < n := by
  rcases Nat.eq_zero_or_pos n with rfl | h0
  · have := h.len
    rw [Nat.zero_mul] at this
    rw [List.eq_nil_of_length_eq_zero this] at hu
    simp at hu
  · exact h0
/-- a cell of what is read -/
theorem Reads.at {w : World} {size : Nat} {v : Value} {n : Nat} {xs : List Value} (h : Reads w size v n xs) (j : Nat) (u : Value) (hu : xs[j]? = some u) : ∃ b o c, v = .slice (some ⟨b, o, none⟩) n c ∧ w.cell? ⟨b, o + j, none⟩ = some u := by
  have h0 := h.pos hu
  obtain ⟨A, c, rfl, h1, h2, h3, h4, h5⟩ := h.val
  obtain ⟨a, rfl, hc⟩ := h5 j u hu
  obtain ⟨b, o, sp⟩ := a
  have := (h4 _ rfl h0).1
  simp only at this
  subst this
  exact ⟨b, o, c, rfl, hc⟩
theorem Reads.keep {S : Nat → Prop} {w w' : World} {size : Nat} {v : Value} {n : Nat} {xs : List Value} (h : Reads w size v n xs) (hk : Keep S w w')
    (hn : ∀ g, v.ownBlock = some g → 0 < n → ¬ S g) : Reads w' size v n xs := by
  have hp := @h.pos
  obtain ⟨hl, A, c, rfl, h1, h2, h3, h4, h5⟩ := h
  refine ⟨hl, A, c, rfl, h1, h2, h3, fun a ha h0 => ⟨(h4 a ha h0).1, Nat.lt_of_lt_of_le (h4 a ha h0).2 hk.size⟩, fun j u hu => ?_⟩
  obtain ⟨a, rfl, hc⟩ := h5 j u hu
  exact ⟨a, rfl, (hk.cell (p := ⟨a.block, a.off + j, none⟩) (h4 a rfl (hp hu)).2 (hn _ rfl (hp hu))).trans hc⟩
theorem Reads.drewN {w : World} {size : Nat} {v : Value} {n : Nat} {xs : List Value} (h : Reads w size v n xs) (m : Nat) : Reads (w.drewN m) size v n xs :=
  h.keep ((Keep.refl (fun _ => False) w).drewN m) (fun _ _ _ => id)
theorem Reads.lt {w : World} {size : Nat} {v : Value} {n : Nat} {xs : List Value} (h : Reads w size v n xs) : ∀ g, v.ownBlock = some g → 0 < n → g < w.heap.size := by
  intro g hg h0
  obtain ⟨A, c, rfl, h1, h2, h3, h4, h5⟩ := h.val
  cases A with
  | none => simp [Value.ownBlock] at hg
  | some a =>
    simp [Value.ownBlock] at hg
    subst hg
    exact (h4 a rfl h0).2
/-- what was there when the call began still reads so -/
theorem Reads.below {w w' : World} {size : Nat} {v : Value} {n : Nat} {xs : List Value} (h : Reads w size v n xs) (hk : Below w.heap.size w w') : Reads w' size v n xs :=
  h.keep (Keep.none hk) (fun _ _ _ => id)
theorem Reads.alloc {w : World} {size : Nat} {v : Value} {n : Nat} {xs : List Value} (h : Reads w size v n xs) (o : Obj) : Reads (w.alloc o) size v n xs :=
  h.keep ((Keep.refl (fun _ => False) w).alloc o) (fun _ _ _ => id)
theorem Reads.of_owns {w : World} {base : Nat} {e : TypeId} {size : Nat} {v : Value} {n : Nat} {xs : List Value} (h : w.ownsRow base e size v n xs) : Reads w size v n xs := by
  refine ⟨h.1, ?_⟩
  rcases h.2 with ⟨rfl, rfl⟩ | ⟨g, cap, cur, rfl, hg, hh, h1, h2, h3, h4⟩
  · refine ⟨none, 0, rfl, Nat.le_refl _, Nat.zero_le _, fun _ => ⟨rfl, rfl⟩, fun a ha _ => (by cases ha), fun j u hu => ?_⟩
    have := h.1
    simp at this
    subst this
    simp at hu
  · refine ⟨_, cap, rfl, h1, h2, fun ha => (by cases ha), fun a ha _ => ?_, fun j u hu => ⟨_, rfl, ?_⟩⟩
    · cases ha
      exact ⟨rfl, (Array.getElem?_eq_some_iff.1 hh).1⟩
    · rw [Nat.zero_add, cell_of_row w g j cur e (0, 0) hh]
      rw [← h4, List.getElem?_take] at hu
      split at hu
      · simpa using hu
      · cases hu
theorem Reads.new (w : World) (cs : Array Value) (E : TypeId) (n size : Nat) (h : cs.size = n * size) (hn : n ≤ 1000000) : Reads (w.alloc (.cells cs E)) size (.slice (some ⟨w.heap.size, 0, none⟩) n n) n cs.toList :=
  ⟨by simpa using h, _, n, rfl, Nat.le_refl _, by unfold maxLen; omega, fun ha => (by cases ha), fun a ha _ => by cases ha; exact ⟨rfl, by simp⟩, fun j u hu => ⟨_, rfl, by
    rw [Nat.zero_add, cell_of_row _ _ _ _ _ _ (heap_alloc_new w _)]; simpa using hu⟩⟩
theorem Reads.nil (w : World) (size : Nat) : Reads w size (.slice none 0 0) 0 [] :=
  ⟨by simp, none, 0, rfl, Nat.le_refl _, Nat.zero_le _, fun _ => ⟨rfl, rfl⟩, fun a ha _ => (by cases ha), fun j u hu => (by simp at hu)⟩
end
section
open Go.ChangeShapes Go.WideShapes Go.ChangeAt Go.RowKit
set_option linter.unusedVariables false
set_option linter.unusedSimpArgs false

/-- A slice of whole numbers, as a row hands it over. -/
theorem read_ints {H : Type} {enc : TypeId × Value → H} {P : Program} {W : World} {spare : Nat → Bool} {held : Bool} {t e : TypeId} {k : IntKind} {a : Option Addr} {len cap : Nat} {d : DataW H} {ps : List MemPlace} {ts : List TypeId} {ds : List (DataW H)} {j : Nat}
    (hsz : (DataW.weightsEach P ts ds).all (· ≤ reachBytes) = true) (ht : ts[j]? = some t) (hd : ds[j]? = some d) (hu : P.underlying t = some (.slice e)) (he : P.underlying e = some (.int k)) (hc : P.cellsOf e = 1) {B : Nat} (hB : P.bytesOf e = B)
    (h : DataW.Trod enc P W 0 spare held t (.slice a len cap) d ps) : ∃ l : List Int, len = l.length ∧ Reads W 1 (.slice a l.length cap) l.length (l.map (Value.int k)) ∧ (∀ x ∈ l, (Lit.int k x).wf = true) ∧ l.length * B ≤ 140737488351232 := by
  obtain ⟨fuel, hf⟩ := h
  rcases open_ints hu he hc hf with ⟨hcs, _⟩ | ⟨x, l, c, zs, hcs, hbase, hl, hm, hz, hx, hcell, hwf⟩
  · simp [Value.cells] at hcs
    obtain ⟨rfl, rfl, rfl⟩ := hcs
    exact ⟨[], rfl, Reads.nil _ _, by simp, by simp⟩
  · simp [Value.cells] at hcs
    obtain ⟨rfl, rfl, rfl⟩ := hcs
    obtain ⟨hx, _⟩ := Prod.mk.inj hx
    subst hx
    have z := sized_slice hsz ht hd hu
    rw [hB] at z
    have hl2 : len ≤ zs.length := by
      rw [hz]
      split
      · exact hl
      · exact Nat.le_refl _
    have h1 : (lits (H := H) k (zs.take len)).length + (lits (H := H) k (zs.drop len)).length = zs.length := by
      simp [lits]
      omega
    rw [h1] at z
    have hcl : ∀ i, i < zs.length → x.spot = none ∧ x.block < W.heap.size ∧ W.cell? ⟨x.block, x.off + i, none⟩ = some (.int k (zs.getD i 0)) := by
      intro i hi
      have h0 := hcell 0 (by omega)
      have hlt := World.block_lt_of_cell? W _ h0
      have hsp : x.spot = none := by
        rw [show x.add 0 = x by simp [Addr.add]] at h0
        cases hs : x.spot with
        | none => rfl
        | some q =>
          exfalso
          unfold World.cell? at h0
          split at h0 <;> simp_all
      have := hcell i hi
      obtain ⟨b, o, sp⟩ := x
      simp only at hsp
      subst hsp
      have e : ∀ j, (⟨b, o, none⟩ : Addr).add j = ⟨b, o + j, none⟩ := by intro j; unfold Addr.add; split <;> simp_all
      rw [e] at this
      rw [e] at hlt
      exact ⟨rfl, hlt, this⟩
    refine ⟨zs.take len, by simp; omega, ?_, fun y hy => hwf y (List.mem_of_mem_take hy), ?_⟩
    · have hlen : (zs.take len).length = len := by simp; omega
      rw [hlen]
      refine ⟨by simp; omega, _, cap, rfl, hl, hm, fun ha => (by cases ha), fun a ha h0 => ?_, fun i u hu => ⟨_, rfl, ?_⟩⟩
      · cases ha
        exact ⟨(hcl 0 (by omega)).1, (hcl 0 (by omega)).2.1⟩
      · obtain ⟨hi, he⟩ := List.getElem?_eq_some_iff.1 hu
        simp at hi he
        rw [(hcl i (by omega)).2.2, ← he]
        simp [List.getD, show i < zs.length by omega]
    · have : (zs.take len).length = len := by simp; omega
      rw [this]
      exact Nat.le_trans (Nat.mul_le_mul_right _ hl2) z
end
section
open Go.RowKit
set_option linter.unusedVariables false
set_option linter.unusedSimpArgs false

theorem info_msg : (Try.prog.info? 102).map (fun i => (i.zero, i.size, i.bytes)) = some (some (.agg #[.int .i64 0, .slice none 0 0]), 2, 32) := by kernel_rfl

set_option maxRecDepth 100000 in
set_option maxHeartbeats 1000000 in
/-- slices.Clone: new cells, the same as the old ones; nil of nil. -/
theorem clone_msg (v : Value) (n : Nat) (xs : List Value) (w : World) (h : Reads w 2 v n xs) (hn : n * 32 ≤ 140737488351232) (h1 : ∀ u ∈ xs, u.oneCell' = true) :
    Calls Try.prog 54 #[v] w fun e w' => ∃ A c, e = .returned (.slice A n c) ∧ w'.ownsRow w.heap.size 102 2 (.slice A n c) n xs ∧ Below w.heap.size w w' ∧ (v = .slice none 0 0 ↔ (.slice A n c : Value) = .slice none 0 0) := by
  have hR := h
  obtain ⟨hl, A, c, rfl, h2, h3, h4, h5, h6⟩ := h
  obtain ⟨i0, hi, hz0, hz1, hz2⟩ := info_parts info_msg
  have q22 : ∀ (w : World) (a : Option Addr) (n c n' c' : Nat), (binOp .eql 96 (.slice a n c) (.slice none n' c')).run Try.prog w = .ok (.bool a.isNone) w := fun w a n c n' c' => Lib.run_eql_slice_nil w _ _ a n c n' c' Try.underlying96
  have u22 : ∀ w, Sem.run Try.prog (underlying 96) w = .ok (TypeDesc.slice 102) w := run_underlying Try.underlying96
  cases A with
  | none =>
    obtain ⟨rfl, rfl⟩ := h4 rfl
    have : xs = [] := List.eq_nil_of_length_eq_zero (by simpa using hl)
    subst this
    go_enter Try.func54, Try.ntmps54
    go_wp2
    go_ret
    exact ⟨_, _, rfl, World.ownsRow_nil _ _ _ _, Below.refl _ _, by simp⟩
  | some a =>
    have hc : ∀ j u, xs[j]? = some u → w.cell? (a.add j) = some u := fun j u hu => by
      obtain ⟨b, o, c', he, hc⟩ := hR.at j u hu
      cases he
      have e : (⟨b, o, none⟩ : Addr).add j = ⟨b, o + j, none⟩ := by unfold Addr.add; split <;> simp_all
      rw [e]; exact hc
    have HC := Lib.hid hc
    have HL := Lib.hid hl
    clear hc hl h4 h5 h6 hR
    go_enter Try.func54, Try.ntmps54
    go_wp2_with (at_builtin; refine wpList_append_own _ rfl _ _ 96 rfl w.heap.size 102 i0 (.agg #[.int .i64 0, .slice none 0 0]) 2 32 Try.underlying96 hi hz0 hz1 hz2 rfl (by decide) _ _ _ rfl (World.ownsRow_made w #[] 0 (Nat.le_refl _) (Nat.zero_le _) rfl) a n c xs rfl ?qc1 ?qc2 ?qc3 ?qc4 ?qc5 ?qc6 ?_)
    case qc1 => simpa using HL.out
    case qc2 =>
      intro j u hj
      first | exact HC.out j u hj | exact Lib.cell?_alloc_some _ (HC.out j u hj)
    case qc3 => exact h1
    case qc4 => have := h3; omega
    case qc5 => omega
    try (case qc6 => simp)
    intro v' w1 hown hgrow hnil
    go_wp2
    go_ret
    obtain ⟨A', c', rfl⟩ := ownsRow_slice hown
    refine ⟨A', c', by simp, by simpa using hown, ((Below.refl _ w).alloc (Nat.le_refl _) _).grown hgrow (by simp) (by intro k hk; simp [Value.ownBlock] at hk; omega), ?_⟩
    exact ⟨fun h => by simp at h, fun h => (hnil (by simpa using h)).elim⟩
end
section
open Go.RowKit
set_option linter.unusedVariables false
set_option linter.unusedSimpArgs false

theorem flatMap_length {α : Type} {cells : α → List Value} {s : Nat} (hs : ∀ x, (cells x).length = s) (l : List α) : (l.flatMap cells).length = l.length * s := by
  induction l with
  | nil => simp
  | cons z l ih => simp only [List.flatMap_cons, List.length_append, hs, ih, List.length_cons]; rw [Nat.add_mul]; omega
theorem flatMap_at {α : Type} {cells : α → List Value} {s : Nat} (hs : ∀ x, (cells x).length = s) : ∀ (l : List α) (k : Nat) (x : α) (j : Nat) (u : Value), l[k]? = some x → (cells x)[j]? = some u → (l.flatMap cells)[k * s + j]? = some u
  | [], k, x, j, u, h, _ => by simp at h
  | z :: l, 0, x, j, u, h, hu => by
    simp at h
    subst h
    have hj : j < s := by have := (List.getElem?_eq_some_iff.1 hu).1; rw [hs] at this; exact this
    rw [List.flatMap_cons, List.getElem?_append_left (by rw [hs]; omega)]
    simpa using hu
  | z :: l, k + 1, x, j, u, h, hu => by
    have hj : j < s := by have := (List.getElem?_eq_some_iff.1 hu).1; rw [hs] at this; exact this
    have e : (k + 1) * s = s + k * s := by rw [Nat.add_mul, Nat.one_mul, Nat.add_comm]
    rw [List.flatMap_cons, List.getElem?_append_right (by rw [hs, e]; omega), hs, show (k + 1) * s + j - s = k * s + j by rw [e]; omega]
    exact flatMap_at hs l k x j u (by simpa using h) hu
/-- the cells of one element -/
theorem Reads.elem {α : Type} {cells : α → List Value} {s : Nat} {w : World} {v : Value} {n : Nat} {l : List α} (h : Reads w s v n (l.flatMap cells)) (hs : ∀ x, (cells x).length = s) (hs0 : 0 < s) {k : Nat} {x : α} (hx : l[k]? = some x) :
    ∃ g o c, v = .slice (some ⟨g, o, none⟩) n c ∧ ∀ j u, (cells x)[j]? = some u → w.cell? ⟨g, o + k * s + j, none⟩ = some u := by
  obtain ⟨u0, hu0⟩ : ∃ u, (cells x)[0]? = some u := ⟨_, List.getElem?_eq_getElem (by rw [hs]; exact hs0)⟩
  obtain ⟨g, o, c, he, -⟩ := h.at _ _ (flatMap_at hs l k x 0 u0 hx hu0)
  refine ⟨g, o, c, he, fun j u hu => ?_⟩
  obtain ⟨g', o', c', he', hc⟩ := h.at _ _ (flatMap_at hs l k x j u hx hu)
  rw [he] at he'
  cases he'
  rw [Nat.add_assoc]
  exact hc
end
section
open Go.RowKit
theorem blk3 {w : World} {b : Nat} {v0 v1 v2 : Value} {T : TypeId} (h : Blk w b #[v0, v1, v2] T) : w.cell? ⟨b, 0, none⟩ = some v0 ∧ w.cell? ⟨b, 1, none⟩ = some v1 ∧ w.cell? ⟨b, 2, none⟩ = some v2 :=
  ⟨h.cell 0 rfl, h.cell 1 rfl, h.cell 2 rfl⟩
theorem blk4 {w : World} {b : Nat} {v0 v1 v2 v3 : Value} {T : TypeId} (h : Blk w b #[v0, v1, v2, v3] T) : w.cell? ⟨b, 0, none⟩ = some v0 ∧ w.cell? ⟨b, 1, none⟩ = some v1 ∧ w.cell? ⟨b, 2, none⟩ = some v2 ∧ w.cell? ⟨b, 3, none⟩ = some v3 :=
  ⟨h.cell 0 rfl, h.cell 1 rfl, h.cell 2 rfl, h.cell 3 rfl⟩
theorem blk5 {w : World} {b : Nat} {v0 v1 v2 v3 v4 : Value} {T : TypeId} (h : Blk w b #[v0, v1, v2, v3, v4] T) : w.cell? ⟨b, 0, none⟩ = some v0 ∧ w.cell? ⟨b, 1, none⟩ = some v1 ∧ w.cell? ⟨b, 2, none⟩ = some v2 ∧ w.cell? ⟨b, 3, none⟩ = some v3 ∧ w.cell? ⟨b, 4, none⟩ = some v4 :=
  ⟨h.cell 0 rfl, h.cell 1 rfl, h.cell 2 rfl, h.cell 3 rfl, h.cell 4 rfl⟩
theorem Blk.below {w w' : World} {b : Nat} {cs : Array Value} {T : TypeId} (h : Blk w b cs T) (hb : Below w.heap.size w w') : Blk w' b cs T := h.keep (Keep.none hb) id
theorem Blk.belowAt {B : Nat} {w w' : World} {b : Nat} {cs : Array Value} {T : TypeId} (h : Blk w b cs T) (hb : Below B w w') (hB : b < B) : Blk w' b cs T := h.keep (Keep.ofBelow hb) (by omega)
end
section
open Go.RowKit
set_option linter.unusedVariables false
set_option linter.unusedSimpArgs false

structure Msg where
  due : Int
  A : Option Addr
  n : Nat
  c : Nat
  bs : List Int
def msgCells (o : Msg) : List Value := [.int .i64 o.due, .slice o.A o.n o.c]
theorem msgCells_len (o : Msg) : (msgCells o).length = 2 := rfl
def MsgsAt (w : World) (v : Value) (l : List Msg) : Prop := Reads w 2 v l.length (l.flatMap msgCells)
theorem MsgsAt.at {w : World} {v : Value} {x : List Msg} (h : MsgsAt w v x) {k : Nat} {a : Msg} (hk : x[k]? = some a) : ∃ g p c, v = .slice (some ⟨g, p, none⟩) x.length c ∧ w.cell? ⟨g, p + k * 2, none⟩ = some (.int .i64 a.due) ∧ w.cell? ⟨g, p + k * 2 + 1, none⟩ = some (.slice a.A a.n a.c) := by
  obtain ⟨g, p, c, he, hc⟩ := Reads.elem h msgCells_len (by omega) hk
  exact ⟨g, p, c, he, hc 0 _ rfl, hc 1 _ rfl⟩
theorem msg_one : ∀ x : Msg, ∀ v ∈ msgCells x, v.oneCell' = true := by
  intro x v hv
  simp only [msgCells, List.mem_cons, List.not_mem_nil, or_false] at hv
  rcases hv with rfl | rfl <;> rfl
theorem msgs_one (l : List Msg) : ∀ u ∈ l.flatMap msgCells, u.oneCell' = true := by
  intro u hu
  obtain ⟨x, -, hx⟩ := List.mem_flatMap.1 hu
  exact msg_one x u hx
end
section
open Go.RowKit
set_option linter.unusedVariables false
set_option linter.unusedSimpArgs false

section
variable {P : Program}

theorem run_app (w : World) (base : Nat) (t ty e : TypeId) (i : TypeInfo) (z : Value) (size bytes : Nat) (ht : P.underlying t = some (.slice e)) (hi : P.info? e = some i) (hz : i.zero = some z)
    (hsize : i.size = size) (hby : i.bytes = bytes) (hzs : z.cells.size = size)
    (v : Value) (n : Nat) (xs : List Value) (hown : w.ownsRow base e size v n xs)
    (a : Addr) (m c : Nat) (news : List Value) (hl : news.length = m * size) (hnews : ∀ j u, news[j]? = some u → w.cell? (a.add j) = some u) (h1 : ∀ u ∈ news, u.oneCell' = true)
    (h63 : n + m ≤ maxLen) (hbytes : (n + m) * bytes ≤ 140737488355328) (hbase : base ≤ w.heap.size) :
    ∃ A c' w', (Builtin.append_ #[t, t] ty #[v, .slice (some a) m c]).run P w = .ok (.slice A (n + m) c') w' ∧ w'.ownsRow base e size (.slice A (n + m) c') (n + m) (xs ++ news) ∧
      Keep (fun k => v.ownBlock = some k) w w' ∧ (∀ g, (Value.slice A (n + m) c').ownBlock = some g → v.ownBlock = some g ∨ w.heap.size ≤ g) ∧ (A = none → v = .slice none 0 0 ∧ m = 0) := by
  subst hsize
  subst hby
  have hsmall : n + m ≤ 9223372036854775807 := by simp only [maxLen] at h63; omega
  have hlen : (xs ++ news).length = (n + m) * i.size := by rw [List.length_append, hown.1, hl, Nat.add_mul]
  have fresh : ∀ old, old < n + m →
      (w.drew.alloc (.cells (xs.toArray ++ news.toArray ++ Builtin.zeroCells z.cells (grownCap w (n + m) old e - (n + m))) e)).ownsRow base e i.size
        (.slice (some ⟨w.heap.size, 0, none⟩) (n + m) (grownCap w (n + m) old e)) (n + m) (xs ++ news) := by
    intro old ho
    have hge := grownCap_ge w (n + m) old e
    refine ⟨hlen, .inr ⟨w.heap.size, _, _, rfl, hbase, heap_alloc_new w.drew _, hge, grownCap_le_maxLen w (n + m) old e h63, ?_, ?_⟩⟩
    · rw [Array.size_append, Array.size_append, size_zeroCells, hzs]
      have : xs.toArray.size + news.toArray.size = (n + m) * i.size := by simpa using hlen
      rw [this, ← Nat.add_mul]
      congr 1
      omega
    · rw [Array.toList_append, Array.toList_append, ← hlen]
      exact List.take_left
  have keepF : ∀ o, Keep (fun k => v.ownBlock = some k) w (w.drew.alloc o) := fun o => (Keep.refl _ _).drew.alloc o
  have inF : ∀ g cap, (Value.slice (some ⟨w.heap.size, 0, none⟩) (n + m) cap).ownBlock = some g → v.ownBlock = some g ∨ w.heap.size ≤ g := by
    intro g cap hg
    simp [Value.ownBlock] at hg
    exact .inr (by omega)
  rcases hown.2 with ⟨rfl, rfl⟩ | ⟨g, cap, cur, rfl, hbg, hg, hnc, hcm, hcs, htake⟩
  · have hx : xs = [] := List.eq_nil_of_length_eq_zero (by simpa using hown.1)
    subst hx
    by_cases hm : m = 0
    · subst hm
      have hn : news = [] := List.eq_nil_of_length_eq_zero (by simpa using hl)
      subst hn
      refine ⟨none, 0, w, ?_, World.ownsRow_nil w base e i.size, Keep.refl _ _, fun g hg => by simp [Value.ownBlock] at hg, fun _ => ⟨rfl, rfl⟩⟩
      simp [Builtin.append_, run_underlying ht, sizeOf, typeInfo, hi, Builtin.lenOf, Builtin.firstCells, loadCells, loadCellsFrom]
    · have hr := run_append_nil (P := P) w t ty e i z ht hi hz a m c news hl hnews (by omega) (by omega) (by rw [Nat.zero_add] at hbytes; omega)
      have hgr := fresh 0 (by omega)
      simp only [Nat.zero_add, List.nil_append] at hgr inF ⊢
      refine ⟨_, _, _, hr, ?_, keepF _, fun g hg => inF g _ hg, fun h => by cases h⟩
      simpa using hgr
  · by_cases hroom : n + m ≤ cap
    · have hfit : n * i.size + news.length ≤ cur.size := by rw [hl, hcs, ← Nat.add_mul]; exact Nat.mul_le_mul_right _ hroom
      have hr := run_append_room (P := P) w t ty e i ht hi g n cap cur hg a m c news hl hnews h1 hroom hfit
      refine ⟨_, _, _, hr, ⟨hlen, .inr ⟨g, cap, _, rfl, hbg, setRow_heap w g cur _ e _ hg, hroom, hcm, ?_, ?_⟩⟩, ?_, fun g' hg' => .inl hg', fun h => by cases h⟩
      · simp only [List.size_toArray, List.length_append, List.length_take, List.length_drop, Array.length_toList]
        omega
      · rw [htake, ← hlen]
        exact List.take_left
      · exact ⟨rfl, rfl, rfl, by simp [World.setRow], fun k _ hk => setRow_other w g k _ (fun e => hk (by simp [Value.ownBlock, e]))⟩
    · have holds : ∀ j u, xs[j]? = some u → w.cell? ((⟨g, 0, none⟩ : Addr).add j) = some u := hown.cells (g := g) rfl
      have hr := run_append_grow (P := P) w t ty e i z ht hi hz ⟨g, 0, none⟩ n cap xs hown.1 holds a m c news hl hnews (by omega) (by omega) (growslice_fits (by omega) hbytes)
      exact ⟨_, _, _, hr, fresh cap (by omega), keepF _, fun g' hg' => inF g' _ hg', fun h => by cases h⟩

/-- append of what lies in memory -/
theorem wpList_app {ops : Array Oper} {rest : List Oper} {o : Oper} {ac : Act} {Q : Exit → Act → World → Prop} {w : World} (hgd : o.guard = none) (s x : Operand) (t : TypeId)
    (ho : o.op = .call { callee := .builtin .append, args := #[s, x], argTypes := #[t, t] })
    (base : Nat) (e : TypeId) (i : TypeInfo) (z : Value) (size bytes : Nat) (ht : P.underlying t = some (.slice e)) (hi : P.info? e = some i) (hz : i.zero = some z)
    (hsize : i.size = size) (hby : i.bytes = bytes) (hzs : z.cells.size = size)
    (v : Value) (n : Nat) (xs : List Value) (hs : ac.eval s = v) (hown : w.ownsRow base e size v n xs)
    (a : Addr) (m c : Nat) (news : List Value) (hx : ac.eval x = .slice (some a) m c) (hl : news.length = m * size) (hnews : ∀ j u, news[j]? = some u → w.cell? (a.add j) = some u) (h1 : ∀ u ∈ news, u.oneCell' = true)
    (h63 : n + m ≤ maxLen) (hbytes : (n + m) * bytes ≤ 140737488355328) (hbase : base ≤ w.heap.size)
    (h : ∀ A c' w', w'.ownsRow base e size (.slice A (n + m) c') (n + m) (xs ++ news) → Keep (fun k => v.ownBlock = some k) w w' →
      (∀ g, (Value.slice A (n + m) c').ownBlock = some g → v.ownBlock = some g ∨ w.heap.size ≤ g) → (A = none → v = .slice none 0 0 ∧ m = 0) → wpList P ops Q rest (ac.put o.dst (.slice A (n + m) c')) w') : wpList P ops Q (o :: rest) ac w :=
  wpList_plain hgd fun K hK => by
    obtain ⟨A, c', w', hr, h2, h3, h4, h5⟩ := run_app (P := P) w base t o.type e i z size bytes ht hi hz hsize hby hzs v n xs hown a m c news hl hnews h1 h63 hbytes hbase
    unfold Oper.wp execOp
    simp only [ho, resolve, invoke, builtin, Sem.run_bind, Sem.run_pure, Result.andThen_ok, List.map_toArray, List.map_cons, List.map_nil, hs, hx, hr]
    exact hK _ _ (h A c' w' h2 h3 h4 h5)

theorem Reads.news {w : World} {size : Nat} {a : Addr} {n c : Nat} {xs : List Value} (h : Reads w size (.slice (some a) n c) n xs) : ∀ j u, xs[j]? = some u → w.cell? (a.add j) = some u := by
  intro j u hu
  obtain ⟨b, o, c', he, hc⟩ := h.at j u hu
  cases he
  have e : (⟨b, o, none⟩ : Addr).add j = ⟨b, o + j, none⟩ := by unfold Addr.add; split <;> simp_all
  rw [e]; exact hc

theorem run_app_nil (w : World) (base : Nat) (t ty e : TypeId) (i : TypeInfo) (size : Nat) (ht : P.underlying t = some (.slice e)) (hi : P.info? e = some i)
    (v : Value) (n : Nat) (xs : List Value) (hown : w.ownsRow base e size v n xs) :
    (Builtin.append_ #[t, t] ty #[v, .slice none 0 0]).run P w = .ok v w := by
  rcases hown.2 with ⟨rfl, rfl⟩ | ⟨g, cap, cur, rfl, hbg, hg, hnc, hcm, hcs, htake⟩
  · simp [Builtin.append_, run_underlying ht, sizeOf, typeInfo, hi, Builtin.lenOf, Builtin.firstCells, loadCells, loadCellsFrom]
  · simp [Builtin.append_, run_underlying ht, sizeOf, typeInfo, hi, Builtin.lenOf, Builtin.firstCells, loadCells, loadCellsFrom, hnc, storeCells]

/-- append of a slice that reads so -/
theorem wpList_appR {ops : Array Oper} {rest : List Oper} {o : Oper} {ac : Act} {Q : Exit → Act → World → Prop} {w : World} (hgd : o.guard = none) (s x : Operand) (t : TypeId)
    (ho : o.op = .call { callee := .builtin .append, args := #[s, x], argTypes := #[t, t] })
    (base : Nat) (e : TypeId) (i : TypeInfo) (z : Value) (size bytes : Nat) (ht : P.underlying t = some (.slice e)) (hi : P.info? e = some i) (hz : i.zero = some z)
    (hsize : i.size = size) (hby : i.bytes = bytes) (hzs : z.cells.size = size)
    (v : Value) (n : Nat) (xs : List Value) (hs : ac.eval s = v) (hown : w.ownsRow base e size v n xs)
    (y : Value) (m : Nat) (news : List Value) (hx : ac.eval x = y) (hr : Reads w size y m news) (h1 : ∀ u ∈ news, u.oneCell' = true)
    (h63 : n + m ≤ maxLen) (hbytes : (n + m) * bytes ≤ 140737488355328) (hbase : base ≤ w.heap.size)
    (h : ∀ A c' w', w'.ownsRow base e size (.slice A (n + m) c') (n + m) (xs ++ news) → Keep (fun k => v.ownBlock = some k) w w' →
      (∀ g, (Value.slice A (n + m) c').ownBlock = some g → v.ownBlock = some g ∨ w.heap.size ≤ g) → (A = none → v = .slice none 0 0 ∧ m = 0) → wpList P ops Q rest (ac.put o.dst (.slice A (n + m) c')) w') : wpList P ops Q (o :: rest) ac w := by
  obtain ⟨A, c, rfl, h2, h3, h4, -⟩ := hr.val
  cases A with
  | some a => exact wpList_app hgd s x t ho base e i z size bytes ht hi hz hsize hby hzs v n xs hs hown a m c news hx hr.len hr.news h1 h63 hbytes hbase h
  | none =>
    obtain ⟨rfl, rfl⟩ := h4 rfl
    have hn : news = [] := List.eq_nil_of_length_eq_zero (by simpa using hr.len)
    subst hn
    refine wpList_plain hgd fun K hK => ?_
    have hr := run_app_nil (P := P) w base t o.type e i size ht hi v n xs hown
    unfold Oper.wp execOp
    simp only [ho, resolve, invoke, builtin, Sem.run_bind, Sem.run_pure, Result.andThen_ok, List.map_toArray, List.map_cons, List.map_nil, hs, hx, hr]
    obtain ⟨A', c', rfl⟩ := ownsRow_slice hown
    refine hK _ _ (h A' c' w ?_ (Keep.refl _ _) (fun g hg => .inl hg) ?_)
    · simpa using hown
    · rintro rfl
      rcases hown.2 with ⟨hv, _⟩ | ⟨g, cap, cur, hv, _⟩
      · exact ⟨hv, rfl⟩
      · cases hv

/-- append, at a step of a region that draws its order, of a block that is known whole -/
theorem step_app1 {ops : Array Oper} {o : Oper} {ac : Act} {K : Act → World → Prop} {Q : Exit → Act → World → Prop} {E : Prop} {w : World} (hgd : o.guard = none) (s x : Operand) (t : TypeId)
    (ho : o.op = .call { callee := .builtin .append, args := #[s, x], argTypes := #[t, t] })
    (base : Nat) (e : TypeId) (i : TypeInfo) (z : Value) (size bytes : Nat) (ht : P.underlying t = some (.slice e)) (hi : P.info? e = some i) (hz : i.zero = some z)
    (hsize : i.size = size) (hby : i.bytes = bytes) (hzs : z.cells.size = size)
    (v : Value) (n : Nat) (xs : List Value) (hs : ac.eval s = v) (hown : w.ownsRow base e size v n xs)
    (nb : Nat) (cs : Array Value) (fr : Nat × Nat) (m : Nat) (hx : ac.eval x = .slice (some ⟨nb, 0, none⟩) m m) (hblk : w.heap[nb]? = some (.cells cs e fr)) (hl : cs.size = m * size) (h1 : ∀ u ∈ cs.toList, u.oneCell' = true)
    (h63 : n + m ≤ 1000000000) (hb : bytes ≤ 100000) (hbase : base ≤ w.heap.size)
    (h : ∀ A c' w', w'.ownsRow base e size (.slice A (n + m) c') (n + m) (xs ++ cs.toList) → Keep (fun k => v.ownBlock = some k) w w' →
      (∀ g, (Value.slice A (n + m) c').ownBlock = some g → v.ownBlock = some g ∨ w.heap.size ≤ g) → K (ac.put o.dst (.slice A (n + m) c')) w') :
    if Region.wanted o (yielded ops ac.tmps) = true then Oper.wp P o ac w K Q else E := by
  have hw : Region.wanted o (yielded ops ac.tmps) = true := by simp [Region.wanted, hgd]
  rw [if_pos hw]
  obtain ⟨A, c', w', hr, h2, h3, h4, -⟩ := run_app (P := P) w base t o.type e i z size bytes ht hi hz hsize hby hzs v n xs hown ⟨nb, 0, none⟩ m m cs.toList (by simpa using hl)
    (fun j u hu => by
      have e : (⟨nb, 0, none⟩ : Addr).add j = ⟨nb, j, none⟩ := by unfold Addr.add; split <;> simp_all
      rw [e, cell_of_row _ _ _ _ _ _ hblk]
      simpa using hu) h1 (by unfold maxLen; omega) (Nat.le_trans (Nat.mul_le_mul h63 hb) (by decide)) hbase
  unfold Oper.wp execOp
  simp only [ho, resolve, invoke, builtin, Sem.run_bind, Sem.run_pure, Result.andThen_ok, List.map_toArray, List.map_cons, List.map_nil, hs, hx, hr]
  exact h A c' w' h2 h3 h4

/-- append of what was made just now: its block is the last one -/
theorem wpList_app1 {ops : Array Oper} {rest : List Oper} {o : Oper} {ac : Act} {Q : Exit → Act → World → Prop} {w : World} (hgd : o.guard = none) (s x : Operand) (t : TypeId)
    (ho : o.op = .call { callee := .builtin .append, args := #[s, x], argTypes := #[t, t] })
    (base : Nat) (e : TypeId) (i : TypeInfo) (z : Value) (size bytes : Nat) (ht : P.underlying t = some (.slice e)) (hi : P.info? e = some i) (hz : i.zero = some z)
    (hsize : i.size = size) (hby : i.bytes = bytes) (hzs : z.cells.size = size)
    (v : Value) (n : Nat) (xs : List Value) (hs : ac.eval s = v) (hown : w.ownsRow base e size v n xs)
    (cs : Array Value) (m : Nat) (hx : ac.eval x = .slice (some ⟨w.heap.size, 0, none⟩) m m) (hl : cs.size = m * size) (h1 : ∀ u ∈ cs.toList, u.oneCell' = true)
    (h63 : n + m ≤ 1000000000) (hb : bytes ≤ 100000) (hbase : base ≤ w.heap.size)
    (h : ∀ A c' w', w'.ownsRow base e size (.slice A (n + m) c') (n + m) (xs ++ cs.toList) → Keep (fun k => v.ownBlock = some k) w w' →
      (∀ g, (Value.slice A (n + m) c').ownBlock = some g → v.ownBlock = some g ∨ w.heap.size ≤ g) → (A = none → v = .slice none 0 0 ∧ m = 0) → wpList P ops Q rest (ac.put o.dst (.slice A (n + m) c')) w') : wpList P ops Q (o :: rest) ac (w.alloc (.cells cs e)) :=
  wpList_app hgd s x t ho base e i z size bytes ht hi hz hsize hby hzs v n xs hs (hown.alloc _) ⟨w.heap.size, 0, none⟩ m m cs.toList hx (by simpa using hl)
    (fun j u hu => by
      have e : (⟨w.heap.size, 0, none⟩ : Addr).add j = ⟨w.heap.size, j, none⟩ := by unfold Addr.add; split <;> simp_all
      rw [e, cell_of_row _ _ _ _ _ _ (heap_alloc_new w _)]
      simpa using hu) h1 (by unfold maxLen; omega)
    (Nat.le_trans (Nat.mul_le_mul h63 hb) (by decide)) (by simp; omega)
    (fun A c' w' h2 h3 h4 h5 => h A c' w' h2 (((Keep.refl _ w).alloc _).trans h3 (fun k _ hk => hk)) (fun g hg => (h4 g hg).imp id (fun h => by simp at h; omega)) h5)
end
end
section
open Go.RowKit
set_option linter.unusedVariables false
set_option linter.unusedSimpArgs false
theorem Blk.cellsAt' {w : World} {g : Nat} {cs : Array Value} {T : TypeId} (h : Blk w g cs T) (o : Nat) (news : List Value) (hn : ∀ j v, news[j]? = some v → cs[o + j]? = some v) :
    ∀ j v, news[j]? = some v → w.cell? ((⟨g, o, none⟩ : Addr).add j) = some v := fun j v hj => by
  have e : (⟨g, o, none⟩ : Addr).add j = ⟨g, o + j, none⟩ := by unfold Addr.add; split <;> simp_all
  rw [e]
  exact h.cell (o + j) (hn j v hj)
section
variable {P : Program}

theorem run_copyN (w : World) (dT sT ty elem : TypeId) (g o dLen dCap : Nat) (a : Addr) (sLen sCap : Nat) (cur : Array Value) (t : TypeId) (cs : List Value) (size : Nat)
    (hu : P.underlying dT = some (.slice elem)) (hs : (P.info? elem).map (·.size) = some size)
    (hg : w.heap[g]? = some (.cells cur t (0, 0))) (hn : cs.length = Nat.min sLen dLen * size)
    (hsrc : ∀ j v, cs[j]? = some v → w.cell? (a.add j) = some v) (hfit : o + cs.length ≤ cur.size) (h1 : ∀ v ∈ cs, v.oneCell' = true) :
    (Builtin.copy_ #[dT, sT] ty #[.slice (some ⟨g, o, none⟩) dLen dCap, .slice (some a) sLen sCap]).run P w =
      .ok (goInt (Nat.min sLen dLen)) (w.setRow g (splice cur.toList o cs).toArray) := by
  have hl := run_loadCells_list (P := P) w a cs hsrc
  have hst := run_storeCells_at P g o t cs 0 cur w hg (by simpa using hfit) h1
  cases hq : P.info? elem with
  | none => simp [hq] at hs
  | some i =>
    have hi : i.size = size := by simpa [hq] using hs
    subst hi
    simp [Builtin.copy_, run_underlying hu, Builtin.lenOf, Builtin.firstCells, sizeOf, typeInfo, hq, ← hn, hl, hst, splice]

theorem run_copyN0 (w : World) (dT sT ty elem : TypeId) (d a : Option Addr) (dLen dCap sLen sCap : Nat) (size : Nat) (hu : P.underlying dT = some (.slice elem)) (hs : (P.info? elem).map (·.size) = some size) (hn : Nat.min sLen dLen = 0) :
    (Builtin.copy_ #[dT, sT] ty #[.slice d dLen dCap, .slice a sLen sCap]).run P w = .ok (goInt 0) w := by
  cases hq : P.info? elem with
  | none => simp [hq] at hs
  | some i => cases d <;> cases a <;> simp [Builtin.copy_, run_underlying hu, Builtin.lenOf, Builtin.firstCells, sizeOf, typeInfo, hq, hn, loadCells, loadCellsFrom, storeCells]

theorem Keep.setRow {S : Nat → Prop} {a w : World} (h : Keep S a w) {g : Nat} (hg : S g ∨ a.heap.size ≤ g) (cs : Array Value) : Keep S a (w.setRow g cs) :=
  h.trans (S' := fun k => k = g) ⟨rfl, rfl, rfl, by simp [World.setRow], fun k hk hn => setRow_other w g k cs hn⟩ (fun k hk e => by subst e; exact hg.resolve_right (by omega))

/-- copy of m elements into a block that is known whole -/
theorem wpList_copyN {w : World} {ops : Array Oper} {rest : List Oper} {o : Oper} {ac : Act} {Q : Exit → Act → World → Prop} (hgd : o.guard = none) (d s : Operand) (dT sT : TypeId)
    (ho : o.op = .call { callee := .builtin .copy, args := #[d, s], argTypes := #[dT, sT] }) (elem : TypeId) (size : Nat) (hu : P.underlying dT = some (.slice elem)) (hsz : (P.info? elem).map (·.size) = some size)
    (g off dLen dCap sLen sCap : Nat) (ad : Addr) (hd : ac.eval d = .slice (some ⟨g, off, none⟩) dLen dCap) (hs : ac.eval s = .slice (some ad) sLen sCap)
    (cur : Array Value) (t : TypeId) (hg : Blk w g cur t) (m : Nat) (hm : Nat.min sLen dLen = m) (cs : List Value) (hn : cs.length = m * size)
    (hsrc : ∀ j v, cs[j]? = some v → w.cell? (ad.add j) = some v) (hfit : off + cs.length ≤ cur.size) (h1 : ∀ v ∈ cs, v.oneCell' = true)
    (h : ∀ w', Hid (Blk w' g (splice cur.toList off cs).toArray t) → Keep (fun k => k = g) w w' → wpList P ops Q rest (ac.put o.dst (.int .i64 (m : Int))) w') :
    wpList P ops Q (o :: rest) ac w := by
  refine wpList_plain hgd fun K hK => ?_
  subst hm
  have hrun := run_copyN (P := P) w dT sT o.type elem g off dLen dCap ad sLen sCap cur t cs size hu hsz hg hn hsrc hfit h1
  unfold Oper.wp
  simp only [execOp, ho, resolve, invoke, builtin, Sem.run_bind, Sem.run_pure, Result.andThen_ok, List.map_toArray, List.map_cons, List.map_nil, hd, hs, hrun]
  exact hK _ _ (h _ (setRow_heap w g cur _ t _ hg) ((Keep.refl (fun k => k = g) w).setRow (.inl rfl) _))

theorem step_copyN {w : World} {ops : Array Oper} {o : Oper} {ac : Act} {K : Act → World → Prop} {Q : Exit → Act → World → Prop} {E : Prop} (hgd : o.guard = none) (d s : Operand) (dT sT : TypeId)
    (ho : o.op = .call { callee := .builtin .copy, args := #[d, s], argTypes := #[dT, sT] }) (elem : TypeId) (size : Nat) (hu : P.underlying dT = some (.slice elem)) (hsz : (P.info? elem).map (·.size) = some size)
    (g off dLen dCap sLen sCap : Nat) (ad : Addr) (hd : ac.eval d = .slice (some ⟨g, off, none⟩) dLen dCap) (hs : ac.eval s = .slice (some ad) sLen sCap)
    (cur : Array Value) (t : TypeId) (hg : Blk w g cur t) (m : Nat) (hm : Nat.min sLen dLen = m) (cs : List Value) (hn : cs.length = m * size)
    (hsrc : ∀ j v, cs[j]? = some v → w.cell? (ad.add j) = some v) (hfit : off + cs.length ≤ cur.size) (h1 : ∀ v ∈ cs, v.oneCell' = true)
    (h : ∀ w', Hid (Blk w' g (splice cur.toList off cs).toArray t) → Keep (fun k => k = g) w w' → K (ac.put o.dst (.int .i64 (m : Int))) w') :
    if Region.wanted o (yielded ops ac.tmps) = true then Oper.wp P o ac w K Q else E := by
  have hw : Region.wanted o (yielded ops ac.tmps) = true := by simp [Region.wanted, hgd]
  rw [if_pos hw]
  subst hm
  have hrun := run_copyN (P := P) w dT sT o.type elem g off dLen dCap ad sLen sCap cur t cs size hu hsz hg hn hsrc hfit h1
  unfold Oper.wp
  simp only [execOp, ho, resolve, invoke, builtin, Sem.run_bind, Sem.run_pure, Result.andThen_ok, List.map_toArray, List.map_cons, List.map_nil, hd, hs, hrun]
  exact h _ (setRow_heap w g cur _ t _ hg) ((Keep.refl (fun k => k = g) w).setRow (.inl rfl) _)
end
end
section
open Go.RowKit
set_option linter.unusedVariables false
set_option linter.unusedSimpArgs false
/-- all but one; one more -/
def erase1 {α : Type} (l : List α) (p : Nat) : List α := l.take p ++ l.drop (p + 1)
def put1 {α : Type} (l : List α) (p : Nat) (x : α) : List α := l.take p ++ x :: l.drop p
section
variable {P : Program}

theorem splice_len {α : Type} (L : List α) (o : Nat) (cs : List α) (h : o + cs.length ≤ L.length) : (splice L o cs).length = L.length := length_splice L o cs h
theorem splice_take {α : Type} (L : List α) (o : Nat) (cs : List α) (h : o + cs.length ≤ L.length) : (splice L o cs).take (o + cs.length) = L.take o ++ cs := by
  unfold splice
  rw [← List.append_assoc, List.take_left' (by simp; omega)]

/-- append within the row -/
theorem run_append_in (w : World) (t ty e : TypeId) (i : TypeInfo) (ht : P.underlying t = some (.slice e)) (hi : P.info? e = some i) {size : Nat} (hsize : i.size = size)
    (g n cap : Nat) (cur : Array Value) (hg : Blk w g cur e) (a : Addr) (m c : Nat) (news : List Value) (hl : news.length = m * size) (hnews : ∀ j u, news[j]? = some u → w.cell? (a.add j) = some u) (h1 : ∀ u ∈ news, u.oneCell' = true)
    (hroom : n + m ≤ cap) (hfit : n * size + news.length ≤ cur.size) :
    (Builtin.append_ #[t, t] ty #[.slice (some ⟨g, 0, none⟩) n cap, .slice (some a) m c]).run P w = .ok (.slice (some ⟨g, 0, none⟩) (n + m) cap) (w.setRow g (splice cur.toList (n * size) news).toArray) := by
  subst hsize
  have hr := run_append_room (P := P) w t ty e i ht hi g n cap cur hg a m c news hl hnews h1 hroom hfit
  rw [hr]
  congr 3
  unfold splice
  simp [List.append_assoc]

theorem run_clearN (w : World) (t e ty : TypeId) (z : Value) (ht : P.underlying t = some (.slice e)) (hv : ∀ w, (zeroValue e).run P w = .ok z w) (zs : List Value) (hz : (Builtin.zeroCells z.cells 1).toList = zs) (h1 : ∀ v ∈ zs, v.oneCell' = true)
    (g o c : Nat) (cur : Array Value) (T : TypeId) (hg : Blk w g cur T) (hfit : o + zs.length ≤ cur.size) :
    (Builtin.clear_ #[t] ty #[.slice (some ⟨g, o, none⟩) 1 c]).run P w = .ok (.tuple #[]) (w.setRow g (splice cur.toList o zs).toArray) := by
  have hst := run_storeCells_at P g o T zs 0 cur w hg (by simpa using hfit) h1
  simp only [Nat.add_zero] at hst
  simp [Builtin.clear_, run_underlying ht, hv, hz, hst, splice]

/-- a slice within a longer row -/
theorem ownsRow_cur {w : World} {base : Nat} {e : TypeId} {size : Nat} {g n c : Nat} {xs : List Value} (h : w.ownsRow base e size (.slice (some ⟨g, 0, none⟩) n c) n xs) :
    ∃ cur, base ≤ g ∧ Blk w g cur e ∧ n ≤ c ∧ c ≤ maxLen ∧ cur.size = c * size ∧ cur.toList.take (n * size) = xs := by
  rcases h.2 with ⟨hv, _⟩ | ⟨g', cap, cur, hv, hg, hh, h1, h2, h3, h4⟩
  · cases hv
  · cases hv
    exact ⟨cur, hg, hh, h1, h2, h3, h4⟩
theorem ownsRow_of {w : World} {base : Nat} {e : TypeId} {size : Nat} {g n c : Nat} {xs : List Value} (cur : Array Value) (hb : base ≤ g) (hg : Blk w g cur e) (h1 : n ≤ c) (h2 : c ≤ maxLen) (h3 : cur.size = c * size) (h4 : cur.toList.take (n * size) = xs) (hl : xs.length = n * size) :
    w.ownsRow base e size (.slice (some ⟨g, 0, none⟩) n c) n xs := ⟨hl, .inr ⟨g, c, cur, rfl, hb, hg, h1, h2, h3, h4⟩⟩

theorem wpList_run {w : World} {ops : Array Oper} {rest : List Oper} {o : Oper} {ac : Act} {Q : Exit → Act → World → Prop} (hgd : o.guard = none) (d s : Operand) (t tn : TypeId) (b : Builtin)
    (f : Array TypeId → TypeId → Array Value → Sem Value) (hf : ∀ ats ty cs args, builtin b ats ty cs args = (do pure (.value (← f ats ty args))))
    (ho : o.op = .call { callee := .builtin b, args := #[d, s], argTypes := #[t, tn] }) (vd vs : Value) (hd : ac.eval d = vd) (hs : ac.eval s = vs)
    (v' : Value) (w' : World) (hr : (f #[t, tn] o.type #[vd, vs]).run P w = .ok v' w') (h : wpList P ops Q rest (ac.put o.dst v') w') : wpList P ops Q (o :: rest) ac w := by
  refine wpList_plain hgd fun K hK => ?_
  unfold Oper.wp execOp
  simp only [ho, resolve, invoke, hf, Sem.run_bind, Sem.run_pure, Result.andThen_ok, List.map_toArray, List.map_cons, List.map_nil, hd, hs, hr]
  exact hK _ _ h
theorem step_run {w : World} {ops : Array Oper} {o : Oper} {ac : Act} {K : Act → World → Prop} {Q : Exit → Act → World → Prop} {E : Prop} (hgd : o.guard = none) (d s : Operand) (t tn : TypeId) (b : Builtin)
    (f : Array TypeId → TypeId → Array Value → Sem Value) (hf : ∀ ats ty cs args, builtin b ats ty cs args = (do pure (.value (← f ats ty args))))
    (ho : o.op = .call { callee := .builtin b, args := #[d, s], argTypes := #[t, tn] }) (vd vs : Value) (hd : ac.eval d = vd) (hs : ac.eval s = vs)
    (v' : Value) (w' : World) (hr : (f #[t, tn] o.type #[vd, vs]).run P w = .ok v' w') (h : K (ac.put o.dst v') w') :
    if Region.wanted o (yielded ops ac.tmps) = true then Oper.wp P o ac w K Q else E := by
  have hw : Region.wanted o (yielded ops ac.tmps) = true := by simp [Region.wanted, hgd]
  rw [if_pos hw]
  unfold Oper.wp execOp
  simp only [ho, resolve, invoke, hf, Sem.run_bind, Sem.run_pure, Result.andThen_ok, List.map_toArray, List.map_cons, List.map_nil, hd, hs, hr]
  exact h
theorem wpList_run1 {w : World} {ops : Array Oper} {rest : List Oper} {o : Oper} {ac : Act} {Q : Exit → Act → World → Prop} (hgd : o.guard = none) (s : Operand) (t : TypeId) (b : Builtin)
    (f : Array TypeId → TypeId → Array Value → Sem Value) (hf : ∀ ats ty cs args, builtin b ats ty cs args = (do pure (.value (← f ats ty args))))
    (ho : o.op = .call { callee := .builtin b, args := #[s], argTypes := #[t] }) (vs : Value) (hs : ac.eval s = vs)
    (v' : Value) (w' : World) (hr : (f #[t] o.type #[vs]).run P w = .ok v' w') (h : wpList P ops Q rest (ac.put o.dst v') w') : wpList P ops Q (o :: rest) ac w := by
  refine wpList_plain hgd fun K hK => ?_
  unfold Oper.wp execOp
  simp only [ho, resolve, invoke, hf, Sem.run_bind, Sem.run_pure, Result.andThen_ok, List.map_toArray, List.map_cons, List.map_nil, hs, hr]
  exact hK _ _ h
/-- append of zeros where there is no room -/
theorem run_append_zg (w : World) (t tn ty e : TypeId) (i : TypeInfo) (z : Value) (kk kn : IntKind) (ht : P.underlying t = some (.slice e)) (htn : P.underlying tn = some (.int kn)) (hi : P.info? e = some i) (hz : i.zero = some z)
    {size : Nat} (hsize : i.size = size) (hzs : z.cells.size = size) (b : Addr) (n cap : Nat) (olds : List Value) (hlo : olds.length = n * size) (holds : ∀ j v, olds[j]? = some v → w.cell? (b.add j) = some v)
    (k : Nat) (h0 : 0 < k) (hs : 0 < size) (hg : cap < n + k) (hbig : n + k ≤ 1000000100) (hby : i.bytes ≤ 100000) :
    ∃ cap' rest, n + k ≤ cap' ∧ cap' ≤ maxLen ∧ rest.length = (cap' - n) * size ∧
      (Builtin.append_ #[t, tn] ty #[.slice (some b) n cap, .int kk (k : Int)]).run P w = .ok (.slice (some ⟨w.heap.size, 0, none⟩) (n + k) cap') (w.drew.alloc (.cells (olds ++ rest).toArray e)) := by
  subst hsize
  have hge := grownCap_ge w (n + k) cap e
  have hml := grownCap_le_maxLen w (n + k) cap e (by unfold maxLen; omega)
  refine ⟨grownCap w (n + k) cap e, (Builtin.zeroCells z.cells k).toList ++ (Builtin.zeroCells z.cells (grownCap w (n + k) cap e - (n + k))).toList, hge, hml, ?_, ?_⟩
  · rw [List.length_append, Array.length_toList, Array.length_toList, size_zeroCells, size_zeroCells, hzs, ← Nat.add_mul]
    congr 1; omega
  · have hbb : (n + k) * i.bytes ≤ 140737488355328 := Nat.le_trans (Nat.mul_le_mul hbig hby) (by decide)
    have hkb : k * i.bytes ≤ (n + k) * i.bytes := Nat.mul_le_mul_right _ (by omega)
    have hn : ¬ (n + k ≤ cap) := by omega
    have hw : IntKind.i64.wrap (k : Int) = k := by rw [IntKind.wrap_i64]; omega
    have h63' : ¬ (9223372036854775807 < ((n : Int) + (k : Int))) := by omega
    have h48' : ¬ (281474976710656 < Builtin.nextslicecap (n + k) cap * i.bytes) := by have := growslice_fits (bytes := i.bytes) hg hbb; omega
    have h48i : ¬ (281474976710656 < (k : Int) * (i.bytes : Int)) := by rw [← Int.natCast_mul]; omega
    have hneg : ¬ ((k : Int) < 0) := by omega
    have hns : ¬ (k * i.size = 0) := Nat.mul_ne_zero (by omega) (by omega)
    have hfo := run_firstCells_some (P := P) w.drew i.size n b n cap olds hlo (by simpa using holds)
    simp [Builtin.append_, run_underlying ht, run_underlying htn, sizeOf, typeInfo, zeroValue, hi, hz, asInt, asIntOf, hw, hn, hneg, hns, h63', h48', h48i, Question.forced, hfo, newRow, grownCap]
    congr 2
    apply Array.ext'
    simp
theorem bclear : ∀ ats ty cs args, builtin .clear ats ty cs args = (do pure (.value (← Builtin.clear_ ats ty args))) := fun _ _ _ _ => rfl
theorem bappend : ∀ ats ty cs args, builtin .append ats ty cs args = (do pure (.value (← Builtin.append_ ats ty args))) := fun _ _ _ _ => rfl
theorem bcopy : ∀ ats ty cs args, builtin .copy ats ty cs args = (do pure (.value (← Builtin.copy_ ats ty args))) := fun _ _ _ _ => rfl
end
end
section
open Go.RowKit
set_option linter.unusedVariables false
set_option linter.unusedSimpArgs false

theorem zsize_msg : ∀ w, (zeroValue 102).run Try.prog w = .ok (.agg #[.int .i64 0, .slice none 0 0]) w := Try.zeroValue102
theorem cells1_msg (l : List Msg) (h : ∀ x : Msg, ∀ v ∈ msgCells x, v.oneCell' = true) : ∀ v ∈ l.flatMap msgCells, v.oneCell' = true := by
  intro v hv
  obtain ⟨x, -, hv⟩ := List.mem_flatMap.1 hv
  exact h x v hv
set_option maxRecDepth 100000 in
set_option maxHeartbeats 400000 in
/-- slices.Delete of one element: within the row. -/
theorem delete_msg (base g m p c : Nat) (l : List Msg) (w : World) (hl : l.length = m + 1) (hp : p ≤ m) (h1 : ∀ x : Msg, ∀ v ∈ msgCells x, v.oneCell' = true) (hbig : m ≤ 1000000000)
    (h : w.ownsRow base 102 2 (.slice (some ⟨g, 0, none⟩) (m + 1) c) (m + 1) (l.flatMap msgCells)) :
    Calls Try.prog 48 #[.slice (some ⟨g, 0, none⟩) (m + 1) c, .int .i64 p, .int .i64 ((p : Int) + 1)] w fun e w' => e = .returned (.slice (some ⟨g, 0, none⟩) m c) ∧
      w'.ownsRow base 102 2 (.slice (some ⟨g, 0, none⟩) m c) m ((erase1 l p).flatMap msgCells) ∧ Keep (fun k => k = g) w w' := by
  obtain ⟨cur, hb, hg, hmc, hcm, hcs, htk⟩ := ownsRow_cur h
  obtain ⟨i0, hi, hz0, hz1, hz2⟩ := info_parts info_msg
  have hll : (l.flatMap msgCells).length = (m + 1) * 2 := by rw [flatMap_length msgCells_len, hl]
  obtain ⟨news, hnews⟩ : ∃ news, news = (l.drop (p + 1)).flatMap msgCells := ⟨_, rfl⟩
  have hnl : news.length = (m - p) * 2 := by rw [hnews, flatMap_length msgCells_len, List.length_drop, hl]; congr 1; omega
  have hfit : p * 2 + news.length ≤ cur.size := by rw [hnl, hcs]; omega
  have hfitL : p * 2 + news.length ≤ cur.toList.length := by simpa using hfit
  obtain ⟨cur2, hcur2⟩ : ∃ cur2, cur2 = (splice cur.toList (p * 2) news).toArray := ⟨_, rfl⟩
  have hc2 : cur2.size = c * 2 := by rw [hcur2, List.size_toArray, splice_len _ _ _ hfitL]; simpa using hcs
  have ht2 : cur2.toList.take (m * 2) = (erase1 l p).flatMap msgCells := by
    unfold erase1
    rw [hcur2, show m * 2 = p * 2 + news.length by rw [hnl]; omega]
    show (splice cur.toList (p * 2) news).take _ = _
    rw [splice_take _ _ _ hfitL, List.flatMap_append, ← hnews]
    congr 1
    have e := congrArg (List.take (p * 2)) htk
    rw [List.take_take, Nat.min_eq_left (by omega)] at e
    rw [e, ← List.take_append_drop p l, List.flatMap_append, List.take_left' (by rw [flatMap_length msgCells_len, List.length_take]; congr 1; omega), List.take_append_drop]
  have happ : ∀ (W : World), Blk W g cur 102 → ∀ a k, (∀ j u, news[j]? = some u → W.cell? (Addr.add a j) = some u) → (Builtin.append_ #[96, 96] 96 #[.slice (some ⟨g, 0, none⟩) p c, .slice (some a) (m - p) k]).run Try.prog W = .ok (.slice (some ⟨g, 0, none⟩) m c) (W.setRow g cur2) := fun W hW a k hn => by
    have := run_append_in (P := Try.prog) W 96 96 102 i0 Try.underlying96 hi hz1 g p c cur hW a (m - p) k news hnl hn (by rw [hnews]; exact cells1_msg _ h1) (by omega) hfit
    rw [this, ← hcur2, show p + (m - p) = m by omega]
  have hcell : ∀ j u, news[j]? = some u → w.cell? ⟨g, (p + 1) * 2 + j, none⟩ = some u := fun j u hu => by
    refine ownsRow_cell h ?_
    have e1 : ((l.take (p + 1)).flatMap msgCells).length = (p + 1) * 2 := by rw [flatMap_length msgCells_len, List.length_take, Nat.min_eq_left (by omega)]
    have e2 : l.flatMap msgCells = (l.take (p + 1)).flatMap msgCells ++ news := by rw [hnews, ← List.flatMap_append, List.take_append_drop]
    rw [e2, List.getElem?_append_right (by rw [e1]; omega), e1, Nat.add_sub_cancel_left]
    exact hu
  obtain ⟨zs, hzs⟩ : ∃ zs, zs = (Builtin.zeroCells (.agg #[.int .i64 0, .slice none 0 0] : Value).cells 1).toList := ⟨_, rfl⟩
  have hze : (Builtin.zeroCells (.agg #[.int .i64 0, .slice none 0 0] : Value).cells 1).toList = [.int .i64 0, .slice none 0 0] := by kernel_rfl
  have hzl : zs.length = 2 := by rw [hzs, hze]; rfl
  have hzo : ∀ v ∈ zs, v.oneCell' = true := by rw [hzs, hze]; decide
  obtain ⟨cur3, hcur3⟩ : ∃ cur3, cur3 = (splice cur2.toList (m * 2) zs).toArray := ⟨_, rfl⟩
  have hfit3 : m * 2 + zs.length ≤ cur2.size := by rw [hzl, hc2]; omega
  have hclr : ∀ W : World, Blk W g cur2 102 → ∀ k ty, (Builtin.clear_ #[96] ty #[.slice (some ⟨g, m * 2, none⟩) 1 k]).run Try.prog W = .ok (.tuple #[]) (W.setRow g cur3) := fun W hW k ty => by
    rw [hcur3]
    exact run_clearN W 96 102 ty _ Try.underlying96 zsize_msg zs hzs.symm hzo g (m * 2) k cur2 102 hW hfit3
  have hc3 : cur3.size = c * 2 := by rw [hcur3, List.size_toArray, splice_len _ _ _ (by simpa using hfit3)]; simpa using hc2
  have ht3 : cur3.toList.take (m * 2) = (erase1 l p).flatMap msgCells := by
    rw [← ht2, hcur3]
    show (splice cur2.toList (m * 2) zs).take _ = _
    have e1 : cur2.toList.length = cur2.size := by simp
    unfold splice
    rw [List.take_left' (by rw [List.length_take]; omega)]
  have HFIN : Hid (∀ W : World, Blk W g cur3 102 → W.ownsRow base 102 2 (.slice (some ⟨g, 0, none⟩) m c) m ((erase1 l p).flatMap msgCells)) := fun W hW =>
    ownsRow_of cur3 hb hW (by omega) hcm hc3 ht3 (by have e1 : cur3.toList.length = cur3.size := (by simp); rw [← ht3, List.length_take]; omega)
  have HAPP := Lib.hid happ
  have HCELL : Hid (∀ j u, news[j]? = some u → w.drew.cell? (Addr.add ⟨g, (p + 1) * 2, none⟩ j) = some u) := fun j u hu => by
    have e : (⟨g, (p + 1) * 2, none⟩ : Addr).add j = ⟨g, (p + 1) * 2 + j, none⟩ := by unfold Addr.add; split <;> simp_all
    rw [e]; exact hcell j u hu
  have HCLR := Lib.hid hclr
  have HG := Lib.hid hg
  have HNIL : Hid (m = p → news = []) := fun e => List.eq_nil_of_length_eq_zero (by rw [hnl]; omega)
  have i1 : (0 : Int) ≤ (p : Int) := by omega
  have i2 : (p : Int) ≤ (p : Int) + 1 := by omega
  have i3 : (p : Int) + 1 ≤ (m : Int) + 1 := by omega
  have i4 : (m : Int) + 1 ≤ (c : Int) := by omega
  have i5 : ((p : Int) == (p : Int) + 1) = false := by rw [beq_eq_false_iff_ne]; omega
  have i6 : (p : Int) ≤ (c : Int) := by omega
  have i7 : ((p : Int) + 1).toNat = p + 1 := by omega
  have i8 : (0 : Int) ≤ (p : Int) + 1 := by omega
  have i9 : (p : Int) ≤ (m : Int) + 1 := by omega
  clear happ hcell hclr hg hzs hzl hzo hze hcur2 hcur3 hc2 hc3 ht2 ht3 hfit hfit3 hfitL hnl hnews hll htk hcs h hl
  go_enter Try.func48, Try.ntmps48
  go_wp2_with fail
  by_cases hcc : c = p + 1
  · obtain rfl : m = p := by omega
    obtain rfl : c = m + 1 := hcc
    have HAP0 : Hid ((Builtin.append_ #[96, 96] 96 #[.slice (some ⟨g, 0, none⟩) m (m + 1), .slice (some ⟨g, 0, none⟩) 0 0]).run Try.prog w.drew = .ok (.slice (some ⟨g, 0, none⟩) m (m + 1)) (w.drew.setRow g cur2)) := by
      have h := HAPP.out w.drew HG.out ⟨g, 0, none⟩ 0 (by rw [HNIL.out rfl]; intro j u hu; simp at hu)
      rw [Nat.sub_self] at h
      exact h
    go_region_held3 (fun _ => True) (trivial)
      (first
        | (refine step_run rfl (.tmp 22) (.tmp 25) _ _ .append Builtin.append_ bappend rfl (.slice (some ⟨g, 0, none⟩) m (m + 1)) (.slice (some ⟨g, 0, none⟩) 0 0) rfl rfl _ _ HAP0.out ?_; obtain ⟨W1, hW1⟩ : ∃ W1, W1 = w.drew.setRow g cur2 := ⟨_, rfl⟩; rw [← hW1]; have HW1 := Lib.hid hW1; clear hW1))
    have HB1 : Hid (Blk W1 g cur2 102) := by show Blk _ _ _ _; rw [HW1.out]; exact setRow_heap w.drew g cur _ 102 _ HG.out
    have HK1 : Hid (Keep (fun k => k = g) w W1) := by show Keep _ _ _; rw [HW1.out]; exact ((Keep.refl (fun k => k = g) w).drew).setRow (.inl rfl) _
    have k2 : ¬ (m + 1 = m) := by omega
    have k3 : (m : Int) ≤ (m : Int) + 1 := by omega
    have k4 : (0 : Int) ≤ (m : Int) := by omega
    go_wp2_with (with_reducible refine wpList_run1 rfl (.tmp 31) _ .clear Builtin.clear_ bclear rfl (.slice (some ⟨g, m * 2, none⟩) 1 1) rfl _ _ (HCLR.out W1 HB1.out 1 _) ?_)
    obtain ⟨W2, hW2⟩ : ∃ W2, W2 = W1.setRow g cur3 := ⟨_, rfl⟩
    rw [← hW2]
    have HW2 := Lib.hid hW2
    clear hW2
    go_wp2
    go_ret
    refine ⟨rfl, HFIN.out _ ?_, ?_⟩
    · rw [HW2.out]; exact setRow_heap W1 g cur2 _ 102 _ HB1.out
    · rw [HW2.out]; exact HK1.out.setRow (.inl rfl) _
  · have k1 : ¬ (c = p + 1) := hcc
    go_region_held3 (fun _ => True) (trivial)
      (first
        | (refine step_run rfl (.tmp 22) (.tmp 25) _ _ .append Builtin.append_ bappend rfl (.slice (some ⟨g, 0, none⟩) p c) (.slice (some ⟨g, (p + 1) * 2, none⟩) (m - p) (c - (p + 1))) rfl rfl _ _ (HAPP.out w.drew HG.out ⟨g, (p + 1) * 2, none⟩ (c - (p + 1)) HCELL.out) ?_; obtain ⟨W1, hW1⟩ : ∃ W1, W1 = w.drew.setRow g cur2 := ⟨_, rfl⟩; rw [← hW1]; have HW1 := Lib.hid hW1; clear hW1))
    have HB1 : Hid (Blk W1 g cur2 102) := by show Blk _ _ _ _; rw [HW1.out]; exact setRow_heap w.drew g cur _ 102 _ HG.out
    have HK1 : Hid (Keep (fun k => k = g) w W1) := by show Keep _ _ _; rw [HW1.out]; exact ((Keep.refl (fun k => k = g) w).drew).setRow (.inl rfl) _
    have k2 : ¬ (c = m) := by omega
    have k3 : (m : Int) ≤ (m : Int) + 1 := by omega
    have k4 : (0 : Int) ≤ (m : Int) := by omega
    go_wp2_with (with_reducible refine wpList_run1 rfl (.tmp 31) _ .clear Builtin.clear_ bclear rfl (.slice (some ⟨g, m * 2, none⟩) 1 (c - m)) rfl _ _ (HCLR.out W1 HB1.out (c - m) _) ?_)
    obtain ⟨W2, hW2⟩ : ∃ W2, W2 = W1.setRow g cur3 := ⟨_, rfl⟩
    rw [← hW2]
    have HW2 := Lib.hid hW2
    clear hW2
    go_wp2
    go_ret
    refine ⟨rfl, HFIN.out _ ?_, ?_⟩
    · rw [HW2.out]; exact setRow_heap W1 g cur2 _ 102 _ HB1.out
    · rw [HW2.out]; exact HK1.out.setRow (.inl rfl) _

set_option maxRecDepth 100000 in
set_option maxHeartbeats 400000 in
/-- slices.Insert of one, at the end. -/
theorem insert_end_msg (base vb : Nat) (v : Value) (l : List Msg) (x : Msg) (w : World) (h1 : ∀ x : Msg, ∀ v ∈ msgCells x, v.oneCell' = true) (hbig : l.length ≤ 1000000000) (hbase : base ≤ w.heap.size)
    (h : w.ownsRow base 102 2 v l.length (l.flatMap msgCells)) (hv : Blk w vb (msgCells x).toArray 102) :
    Calls Try.prog 62 #[v, .int .i64 l.length, .slice (some ⟨vb, 0, none⟩) 1 1] w fun e w' => ∃ A c, e = .returned (.slice A (l.length + 1) c) ∧
      w'.ownsRow base 102 2 (.slice A (l.length + 1) c) (l.length + 1) ((put1 l l.length x).flatMap msgCells) ∧ Keep (fun k => v.ownBlock = some k) w w' ∧ (∀ g, (Value.slice A (l.length + 1) c).ownBlock = some g → v.ownBlock = some g ∨ w.heap.size ≤ g) := by
  obtain ⟨i0, hi, hz0, hz1, hz2⟩ := info_parts info_msg
  obtain ⟨A, c, rfl⟩ := ownsRow_slice h
  have hnews := hv.cellsAt' 0 (msgCells x) (fun j v hj => by simpa using hj)
  have hput : put1 l l.length x = l ++ [x] := by unfold put1; simp
  have HP : Hid ((put1 l l.length x).flatMap msgCells = l.flatMap msgCells ++ msgCells x) := by show _ = _; rw [hput, List.flatMap_append]; simp
  have HO := Lib.hid h
  have HN := Lib.hid hnews
  have H1 := Lib.hid (h1 x)
  have hcx := (show l.length ≤ c from by
    obtain ⟨A', c', he, hle, -⟩ := (Reads.of_owns h).val
    cases he; exact hle)
  have i1 : (0 : Int) ≤ (l.length : Int) := by omega
  have i2 : (l.length : Int) ≤ (c : Int) := by omega
  clear h hv hnews hput h1
  cases A with
  | none =>
    have hc0 : c = 0 ∧ l.length = 0 := by
      obtain ⟨A', c', he, -, -, h3, -⟩ := (Reads.of_owns HO.out).val
      cases he; exact ⟨(h3 rfl).2, (h3 rfl).1⟩
    have hl0 : l = [] := List.eq_nil_of_length_eq_zero hc0.2
    obtain rfl := hc0.1
    subst hl0
    clear hc0
    go_enter Try.func62, Try.ntmps62
    go_wp2_with (at_builtin; refine wpList_app rfl _ _ 96 rfl base 102 i0 (.agg #[.int .i64 0, .slice none 0 0]) 2 32 Try.underlying96 hi hz0 hz1 hz2 rfl (.slice none 0 0) 0 _ rfl HO.out ⟨vb, 0, none⟩ 1 1 (msgCells x) rfl rfl HN.out H1.out (by unfold maxLen; omega) (by omega) hbase ?_; rintro A2 c2 w2 hown2 hk2 hg2 -)
    have HO2 := Lib.hid hown2
    have HK2 := Lib.hid hk2
    have HG2 := Lib.hid hg2
    clear hown2 hk2 hg2
    go_wp2
    go_ret
    exact ⟨A2, c2, rfl, by have e := HP.out; rw [List.length_nil] at e; rw [e]; exact HO2.out, HK2.out, HG2.out⟩
  | some a =>
    by_cases hcc : c = l.length
    all_goals
      go_enter Try.func62, Try.ntmps62
      go_wp2_with (at_builtin; refine wpList_app rfl _ _ 96 rfl base 102 i0 (.agg #[.int .i64 0, .slice none 0 0]) 2 32 Try.underlying96 hi hz0 hz1 hz2 rfl (.slice (some a) l.length c) l.length _ rfl HO.out ⟨vb, 0, none⟩ 1 1 (msgCells x) rfl rfl HN.out H1.out (by unfold maxLen; omega) (by omega) hbase ?_; rintro A2 c2 w2 hown2 hk2 hg2 -)
      have HO2 := Lib.hid hown2
      have HK2 := Lib.hid hk2
      have HG2 := Lib.hid hg2
      clear hown2 hk2 hg2
      go_wp2
      go_ret
      exact ⟨A2, c2, rfl, by rw [HP.out]; exact HO2.out, HK2.out, HG2.out⟩
end
section
open Go.RowKit
set_option linter.unusedVariables false
set_option linter.unusedSimpArgs false

theorem sizeOf_msg : ∀ w, (Go.sizeOf 102).run Try.prog w = .ok 2 w := Try.sizeOf102
theorem infos_msg : (Try.prog.info? 102).map (·.size) = some 2 := by kernel_rfl
theorem apart_msg (w : World) (vb g o lb cb : Nat) (xs cur : Array Value) (hv : Blk w vb xs 102) (hg : Blk w g cur 102) (hne : vb ≠ g) (hc : cur.size ≠ 0) :
    (callFunc 64 #[.slice (some ⟨vb, 0, none⟩) 1 1, .slice (some ⟨g, o, none⟩) lb cb]).run Try.prog w = .ok (.value (.bool false)) w := by
  have hs1 : w.shape? vb = some (102, xs.size) := by unfold Blk at hv; simp [World.shape?, hv]
  have hs2 : w.shape? g = some (102, cur.size) := by unfold Blk at hg; simp [World.shape?, hg]
  rw [run_callFunc_extern Try.func64 (by kernel_rfl) (by kernel_rfl) (by kernel_rfl) (e := Extern.SlicesOverlaps.overlaps #[96, 96] #[4]) (by kernel_rfl),
    Lib.run_overlaps_apart w 96 4 102 Try.underlying96 2 sizeOf_msg ⟨vb, 0, none⟩ ⟨g, o, none⟩ 1 1 lb cb hne 102 102 xs.size cur.size hs1 hs2 hc (hv.frozen 0) (hv.frozen _)]
  rfl
set_option maxRecDepth 100000 in
set_option maxHeartbeats 400000 in
/-- slices.Insert of one, where there is room. -/
theorem insert_room_msg (base vb g c p d : Nat) (l : List Msg) (x : Msg) (w : World) (h1 : ∀ x : Msg, ∀ v ∈ msgCells x, v.oneCell' = true) (hbig : l.length ≤ 1000000000) (hl : l.length = p + (d + 1)) (hroom : l.length + 1 ≤ c)
    (h : w.ownsRow base 102 2 (.slice (some ⟨g, 0, none⟩) l.length c) l.length (l.flatMap msgCells)) (hv : Blk w vb (msgCells x).toArray 102) (hne : vb ≠ g) :
    Calls Try.prog 62 #[.slice (some ⟨g, 0, none⟩) l.length c, .int .i64 p, .slice (some ⟨vb, 0, none⟩) 1 1] w fun e w' => e = .returned (.slice (some ⟨g, 0, none⟩) (l.length + 1) c) ∧
      w'.ownsRow base 102 2 (.slice (some ⟨g, 0, none⟩) (l.length + 1) c) (l.length + 1) ((put1 l p x).flatMap msgCells) ∧ Keep (fun k => k = g) w w' := by
  obtain ⟨cur, hb, hg, hmc, hcm, hcs, htk⟩ := ownsRow_cur h
  have hap := fun o lb cb => apart_msg w vb g o lb cb _ cur hv hg hne (by omega)
  have HAP := Lib.hid hap
  rw [hl] at h hroom htk hmc hbig ⊢
  have hcl : cur.toList.length = c * 2 := by simpa using hcs
  obtain ⟨cs, hcs0⟩ : ∃ cs, cs = (l.drop p).flatMap msgCells := ⟨_, rfl⟩
  have hcsl : cs.length = (d + 1) * 2 := by rw [hcs0, flatMap_length msgCells_len, List.length_drop, hl]; congr 1; omega
  have htp : cur.toList.take (p * 2) = (l.take p).flatMap msgCells := by
    have e := congrArg (List.take (p * 2)) htk
    rw [List.take_take, Nat.min_eq_left (by omega)] at e
    rw [e, ← List.take_append_drop p l, List.flatMap_append, List.take_left' (by rw [flatMap_length msgCells_len, List.length_take]; congr 1; omega), List.take_append_drop]
  have hcell : ∀ j u, cs[j]? = some u → w.cell? ⟨g, p * 2 + j, none⟩ = some u := fun j u hu => by
    have h' : w.ownsRow base 102 2 (.slice (some ⟨g, 0, none⟩) (p + (d + 1)) c) (p + (d + 1)) (l.flatMap msgCells) := h
    refine ownsRow_cell h' ?_
    have e1 : ((l.take p).flatMap msgCells).length = p * 2 := by rw [flatMap_length msgCells_len, List.length_take, Nat.min_eq_left (by omega)]
    have e2 : l.flatMap msgCells = (l.take p).flatMap msgCells ++ cs := by rw [hcs0, ← List.flatMap_append, List.take_append_drop]
    rw [e2, List.getElem?_append_right (by rw [e1]; omega), e1, Nat.add_sub_cancel_left]
    exact hu
  have hco : ∀ v ∈ cs, v.oneCell' = true := by rw [hcs0]; exact cells1_msg _ h1
  obtain ⟨cur1, hcur1⟩ : ∃ cur1, cur1 = (splice cur.toList ((p + 1) * 2) cs).toArray := ⟨_, rfl⟩
  have hf1 : (p + 1) * 2 + cs.length ≤ cur.toList.length := by rw [hcsl, hcl]; omega
  have hl1 : cur1.toList.length = c * 2 := by rw [hcur1]; show (splice _ _ _).length = _; rw [splice_len _ _ _ hf1, hcl]
  have hxl : (msgCells x).length = 2 := msgCells_len x
  have hf2 : p * 2 + (msgCells x).length ≤ cur1.toList.length := by rw [hxl, hl1]; omega
  obtain ⟨cur2, hcur2⟩ : ∃ cur2, cur2 = (splice cur1.toList (p * 2) (msgCells x)).toArray := ⟨_, rfl⟩
  have hl2 : cur2.toList.length = c * 2 := by rw [hcur2]; show (splice _ _ _).length = _; rw [splice_len _ _ _ hf2, hl1]
  have ht2 : cur2.toList.take ((p + (d + 1) + 1) * 2) = (put1 l p x).flatMap msgCells := by
    have e1 : (put1 l p x).flatMap msgCells = (l.take p).flatMap msgCells ++ (msgCells x ++ cs) := by unfold put1; rw [List.flatMap_append, List.flatMap_cons, hcs0]
    rw [e1, ← htp, hcur2]
    show (splice cur1.toList (p * 2) (msgCells x)).take _ = _
    unfold splice
    rw [hxl, hcur1]
    show (((splice cur.toList ((p + 1) * 2) cs).take (p * 2)) ++ (msgCells x ++ (splice cur.toList ((p + 1) * 2) cs).drop (p * 2 + 2))).take _ = _
    have e2 : (splice cur.toList ((p + 1) * 2) cs).take (p * 2) = cur.toList.take (p * 2) := by
      unfold splice
      rw [List.take_append_of_le_length (by rw [List.length_take, hcl]; omega), List.take_take, Nat.min_eq_left (by omega)]
    have e3 : (splice cur.toList ((p + 1) * 2) cs).drop (p * 2 + 2) = cs ++ cur.toList.drop ((p + 1) * 2 + cs.length) := by
      unfold splice
      rw [show p * 2 + 2 = (p + 1) * 2 by omega, List.drop_left' (by rw [List.length_take, hcl]; omega)]
    rw [e2, e3, ← List.append_assoc, ← List.append_assoc, List.take_left' (by simp only [List.length_append, List.length_take, hcl, hxl, hcsl]; omega), List.append_assoc]
  have HFIN : Hid (∀ W : World, Blk W g cur2 102 → W.ownsRow base 102 2 (.slice (some ⟨g, 0, none⟩) (p + (d + 1) + 1) c) (p + (d + 1) + 1) ((put1 l p x).flatMap msgCells)) := fun W hW =>
    ownsRow_of cur2 hb hW (by omega) hcm (by rw [← hl2]; simp) ht2 (by rw [← ht2, List.length_take]; omega)
  have HCELL : Hid (∀ j u, cs[j]? = some u → w.drew.cell? (Addr.add ⟨g, p * 2, none⟩ j) = some u) := fun j u hu => by
    have e : (⟨g, p * 2, none⟩ : Addr).add j = ⟨g, p * 2 + j, none⟩ := by unfold Addr.add; split <;> simp_all
    rw [e]; exact hcell j u hu
  have HCP1 : Hid ((Builtin.copy_ #[96, 96] 3 #[.slice (some ⟨g, (p + 1) * 2, none⟩) (d + 1) (c - (p + 1)), .slice (some ⟨g, p * 2, none⟩) (p + (d + 1) + 1 - p) (c - p)]).run Try.prog w.drew = .ok (goInt (Nat.min (p + (d + 1) + 1 - p) (d + 1))) (w.drew.setRow g cur1)) := by
    have e := run_copyN (P := Try.prog) w.drew 96 96 3 102 g ((p + 1) * 2) (d + 1) (c - (p + 1)) ⟨g, p * 2, none⟩ (p + (d + 1) + 1 - p) (c - p) cur 102 cs 2 Try.underlying96 infos_msg hg (by rw [hcsl]; congr 1; exact (Nat.min_eq_right (by omega)).symm) HCELL.out (by simpa using hf1) hco
    rw [hcur1]; exact e
  have HCP2 : Hid (∀ W : World, Blk W g cur1 102 → Blk W vb (msgCells x).toArray 102 → (Builtin.copy_ #[96, 96] 3 #[.slice (some ⟨g, p * 2, none⟩) (p + (d + 1) + 1 - p) (c - p), .slice (some ⟨vb, 0, none⟩) 1 1]).run Try.prog W = .ok (goInt (Nat.min 1 (p + (d + 1) + 1 - p))) (W.setRow g cur2)) := fun W hW hWv => by
    have e := run_copyN (P := Try.prog) W 96 96 3 102 g (p * 2) (p + (d + 1) + 1 - p) (c - p) ⟨vb, 0, none⟩ 1 1 cur1 102 (msgCells x) 2 Try.underlying96 infos_msg hW (by rw [hxl, show Nat.min 1 (p + (d + 1) + 1 - p) = 1 from Nat.min_eq_left (by omega)]) (hWv.cellsAt' 0 _ (fun j v hj => by simpa using hj)) (by simpa using hf2) (h1 x)
    rw [hcur2]; exact e
  have HG := Lib.hid hg
  have HV := Lib.hid hv
  have i1 : (0 : Int) ≤ (p : Int) := by omega
  have i2 : (p : Int) ≤ (p : Int) + ((d : Int) + 1) := by omega
  have i3 : (p : Int) + ((d : Int) + 1) ≤ (c : Int) := by omega
  have i4 : ((p : Int) == (p : Int) + ((d : Int) + 1)) = false := by rw [beq_eq_false_iff_ne]; omega
  have i5 : (p : Int) + ((d : Int) + 1) + 1 ≤ (c : Int) := by omega
  have i6 : ¬ (c = p) := by omega
  have i7 : ¬ (c = p + 1) := by omega
  have i8 : (p : Int) + 1 ≤ (p : Int) + ((d : Int) + 1) + 1 := by omega
  have i9 : (0 : Int) ≤ (p : Int) + 1 := by omega
  have i10 : ((p : Int) + 1).toNat = p + 1 := by omega
  have i11 : ((p : Int) + ((d : Int) + 1) + 1).toNat = p + (d + 1) + 1 := by omega
  have i12 : (p : Int) ≤ (p : Int) + ((d : Int) + 1) + 1 := by omega
  have i14 : (0 : Int) ≤ (p : Int) + ((d : Int) + 1) + 1 := by omega
  have hq := hap ((p + 1) * 2) (d + 1) (c - (p + 1))
  clear hap HAP hl h hroom htk hmc hcm hb hcs hcl hcs0 hcsl htp hcell hco hcur1 hf1 hl1 hxl hf2 hcur2 hl2 ht2 hg hv h1
  go_enter Try.func62, Try.ntmps62
  go_wp2_with fail
  have wk : IntKind.i64.wrap ((p : Int) + 1) = (p : Int) + 1 := IntWalk.i64_in _ (by omega)
  go_region_held3 (fun _ => True) (trivial)
    (first
      | (refine step_run rfl (.tmp 73) (.tmp 76) _ _ .copy Builtin.copy_ bcopy rfl (.slice (some ⟨g, (p + 1) * 2, none⟩) (d + 1) (c - (p + 1))) (.slice (some ⟨g, p * 2, none⟩) (p + (d + 1) + 1 - p) (c - p)) rfl rfl _ _ HCP1.out ?_; obtain ⟨W1, hW1⟩ : ∃ W1, W1 = w.drew.setRow g cur1 := ⟨_, rfl⟩; rw [← hW1]; have HW1 := Lib.hid hW1; clear hW1))
  clear wk
  have HB1 : Hid (Blk W1 g cur1 102) := by show Blk _ _ _ _; rw [HW1.out]; exact setRow_heap w.drew g cur _ 102 _ HG.out
  have HK1 : Hid (Keep (fun k => k = g) w W1) := by show Keep _ _ _; rw [HW1.out]; exact ((Keep.refl (fun k => k = g) w).drew).setRow (.inl rfl) _
  have HV1 : Hid (Blk W1 vb (msgCells x).toArray 102) := HV.out.keep HK1.out hne
  go_wp2_with (with_reducible refine wpList_run rfl (.tmp 80) (.tmp 81) _ _ .copy Builtin.copy_ bcopy rfl (.slice (some ⟨g, p * 2, none⟩) (p + (d + 1) + 1 - p) (c - p)) (.slice (some ⟨vb, 0, none⟩) 1 1) rfl rfl _ _ (HCP2.out W1 HB1.out HV1.out) ?_)
  obtain ⟨W2, hW2⟩ : ∃ W2, W2 = W1.setRow g cur2 := ⟨_, rfl⟩
  rw [← hW2]
  have HW2 := Lib.hid hW2
  clear hW2
  go_wp2
  go_ret
  refine ⟨rfl, HFIN.out _ ?_, ?_⟩
  · rw [HW2.out]; exact setRow_heap W1 g cur1 _ 102 _ HB1.out
  · rw [HW2.out]; exact HK1.out.setRow (.inl rfl) _
end
section
open Go.RowKit
set_option linter.unusedVariables false
set_option linter.unusedSimpArgs false

set_option maxRecDepth 100000 in
set_option maxHeartbeats 400000 in
/-- slices.Insert of one, where there is no room. -/
theorem insert_grow_msg (base vb g p d : Nat) (l : List Msg) (x : Msg) (w : World) (h1 : ∀ x : Msg, ∀ v ∈ msgCells x, v.oneCell' = true) (hbig : l.length ≤ 1000000000) (hl : l.length = p + (d + 1)) (hbase : base ≤ w.heap.size)
    (h : w.ownsRow base 102 2 (.slice (some ⟨g, 0, none⟩) l.length l.length) l.length (l.flatMap msgCells)) (hv : Blk w vb (msgCells x).toArray 102) :
    Calls Try.prog 62 #[.slice (some ⟨g, 0, none⟩) l.length l.length, .int .i64 p, .slice (some ⟨vb, 0, none⟩) 1 1] w fun e w' => ∃ c', e = .returned (.slice (some ⟨w.heap.size, 0, none⟩) (l.length + 1) c') ∧
      w'.ownsRow base 102 2 (.slice (some ⟨w.heap.size, 0, none⟩) (l.length + 1) c') (l.length + 1) ((put1 l p x).flatMap msgCells) ∧ Below w.heap.size w w' := by
  obtain ⟨cur, hb, hg, hmc, hcm, hcs, htk⟩ := ownsRow_cur h
  obtain ⟨i0, hi, hz0, hz1, hz2⟩ := info_parts info_msg
  rw [hl] at h htk hmc hbig hcs ⊢
  have hgl := hg.lt
  obtain ⟨cs, hcs0⟩ : ∃ cs, cs = (l.drop p).flatMap msgCells := ⟨_, rfl⟩
  have hcsl : cs.length = (d + 1) * 2 := by rw [hcs0, flatMap_length msgCells_len, List.length_drop, hl]; congr 1; omega
  obtain ⟨old, hold⟩ : ∃ old, old = (l.take p).flatMap msgCells := ⟨_, rfl⟩
  have hol : old.length = p * 2 := by rw [hold, flatMap_length msgCells_len, List.length_take, Nat.min_eq_left (by omega)]
  have e2 : l.flatMap msgCells = old ++ cs := by rw [hold, hcs0, ← List.flatMap_append, List.take_append_drop]
  have hco : ∀ v ∈ cs, v.oneCell' = true := by rw [hcs0]; exact cells1_msg _ h1
  have hcell : ∀ j u, cs[j]? = some u → w.cell? ⟨g, p * 2 + j, none⟩ = some u := fun j u hu => by
    refine ownsRow_cell h ?_
    rw [e2, List.getElem?_append_right (by rw [hol]; omega), hol, Nat.add_sub_cancel_left]
    exact hu
  have hcello : ∀ j u, old[j]? = some u → w.cell? (Addr.add ⟨g, 0, none⟩ j) = some u := fun j u hu => by
    have hj : j < old.length := (List.getElem?_eq_some_iff.1 hu).1
    have e : (⟨g, 0, none⟩ : Addr).add j = ⟨g, j, none⟩ := by unfold Addr.add; split <;> simp_all
    rw [e]
    refine ownsRow_cell h ?_
    rw [e2, List.getElem?_append_left hj]
    exact hu
  obtain ⟨c', rest, hc1, hc2, hrl, hzg⟩ := run_append_zg (P := Try.prog) w 96 3 96 102 i0 _ .i64 .i64 Try.underlying96 Try.underlying3 hi hz0 hz1 rfl ⟨g, 0, none⟩ p (p + (d + 1)) old hol hcello (d + 2) (by omega) (by decide) (by omega) (by omega) (by rw [hz2]; decide)
  have e9 : ((d + 2 : Nat) : Int) = (p : Int) + ((d : Int) + 1) + 1 - (p : Int) := by omega
  rw [e9] at hzg
  have HZG := Lib.hid hzg
  obtain ⟨cur0, hcur0⟩ : ∃ cur0, cur0 = (old ++ rest).toArray := ⟨_, rfl⟩
  have hl0 : cur0.toList.length = c' * 2 := by rw [hcur0]; show (old ++ rest).length = _; rw [List.length_append, hol, hrl]; omega
  have hxl : (msgCells x).length = 2 := msgCells_len x
  have hf1 : p * 2 + (msgCells x).length ≤ cur0.toList.length := by rw [hxl, hl0]; omega
  obtain ⟨cur1, hcur1⟩ : ∃ cur1, cur1 = (splice cur0.toList (p * 2) (msgCells x)).toArray := ⟨_, rfl⟩
  have hl1 : cur1.toList.length = c' * 2 := by rw [hcur1]; show (splice _ _ _).length = _; rw [splice_len _ _ _ hf1, hl0]
  have hf2 : (p + 1) * 2 + cs.length ≤ cur1.toList.length := by rw [hcsl, hl1]; omega
  obtain ⟨cur2, hcur2⟩ : ∃ cur2, cur2 = (splice cur1.toList ((p + 1) * 2) cs).toArray := ⟨_, rfl⟩
  have hl2 : cur2.toList.length = c' * 2 := by rw [hcur2]; show (splice _ _ _).length = _; rw [splice_len _ _ _ hf2, hl1]
  have ht2 : cur2.toList.take ((p + (d + 1) + 1) * 2) = (put1 l p x).flatMap msgCells := by
    have e1 : (put1 l p x).flatMap msgCells = old ++ (msgCells x ++ cs) := by unfold put1; rw [List.flatMap_append, List.flatMap_cons, hcs0, hold]
    rw [e1, hcur2, show (p + (d + 1) + 1) * 2 = (p + 1) * 2 + cs.length by rw [hcsl]; omega]
    show (splice cur1.toList ((p + 1) * 2) cs).take _ = _
    rw [splice_take _ _ _ hf2, hcur1]
    show (splice cur0.toList (p * 2) (msgCells x)).take ((p + 1) * 2) ++ cs = _
    rw [show (p + 1) * 2 = p * 2 + (msgCells x).length by rw [hxl]; omega, splice_take _ _ _ hf1, hcur0]
    show (old ++ rest).take (p * 2) ++ msgCells x ++ cs = _
    rw [List.take_left' hol, List.append_assoc]
  obtain ⟨G, hG⟩ : ∃ G, G = w.heap.size := ⟨_, rfl⟩
  have HFIN : Hid (∀ W : World, Blk W G cur2 102 → W.ownsRow base 102 2 (.slice (some ⟨G, 0, none⟩) (p + (d + 1) + 1) c') (p + (d + 1) + 1) ((put1 l p x).flatMap msgCells)) := fun W hW =>
    ownsRow_of cur2 (by omega) hW (by omega) hc2 (by rw [← hl2]; simp) ht2 (by rw [← ht2, List.length_take]; omega)
  have HCP1 : Hid (∀ W : World, Blk W G cur0 102 → Blk W vb (msgCells x).toArray 102 → (Builtin.copy_ #[96, 96] 3 #[.slice (some ⟨G, p * 2, none⟩) (d + 2) (c' - p), .slice (some ⟨vb, 0, none⟩) 1 1]).run Try.prog W = .ok (goInt (Nat.min 1 (d + 2))) (W.setRow G cur1)) := fun W hW hWv => by
    have e := run_copyN (P := Try.prog) W 96 96 3 102 G (p * 2) (d + 2) (c' - p) ⟨vb, 0, none⟩ 1 1 cur0 102 (msgCells x) 2 Try.underlying96 infos_msg hW (by rw [hxl, show Nat.min 1 (d + 2) = 1 from Nat.min_eq_left (by omega)]) (hWv.cellsAt' 0 _ (fun j v hj => by simpa using hj)) (by simpa using hf1) (h1 x)
    rw [hcur1]; exact e
  have HCP2 : Hid (∀ W : World, Blk W G cur1 102 → (∀ j u, cs[j]? = some u → W.cell? (Addr.add ⟨g, p * 2, none⟩ j) = some u) → (Builtin.copy_ #[96, 96] 3 #[.slice (some ⟨G, (p + 1) * 2, none⟩) (p + (d + 2) - (p + 1)) (c' - (p + 1)), .slice (some ⟨g, p * 2, none⟩) (d + 1) (d + 1)]).run Try.prog W = .ok (goInt (Nat.min (d + 1) (p + (d + 2) - (p + 1)))) (W.setRow G cur2)) := fun W hW hWc => by
    have e := run_copyN (P := Try.prog) W 96 96 3 102 G ((p + 1) * 2) (p + (d + 2) - (p + 1)) (c' - (p + 1)) ⟨g, p * 2, none⟩ (d + 1) (d + 1) cur1 102 cs 2 Try.underlying96 infos_msg hW (by rw [hcsl]; congr 1; exact (Nat.min_eq_left (by omega)).symm) hWc (by simpa using hf2) hco
    rw [hcur2]; exact e
  have HCELL : Hid (∀ j u, cs[j]? = some u → w.cell? (Addr.add ⟨g, p * 2, none⟩ j) = some u) := fun j u hu => by
    have e : (⟨g, p * 2, none⟩ : Addr).add j = ⟨g, p * 2 + j, none⟩ := by unfold Addr.add; split <;> simp_all
    rw [e]; exact hcell j u hu
  have HV := Lib.hid hv
  have HGe := Lib.hid hG
  have HL := Lib.hid hcur0
  have hvl := hv.lt
  have i1 : (0 : Int) ≤ (p : Int) := by omega
  have i2 : (p : Int) ≤ (p : Int) + ((d : Int) + 1) := by omega
  have i3 : (0 : Int) ≤ (p : Int) + 1 := by omega
  have i4 : ((p : Int) == (p : Int) + ((d : Int) + 1)) = false := by rw [beq_eq_false_iff_ne]; omega
  have i5 : (p : Int) ≤ (p : Int) + ((d : Int) + 2) := by omega
  have i6 : ¬ (p + (d + 1) = p) := by omega
  have i7 : ¬ (c' = p) := by omega
  have i8 : ¬ (c' = p + 1) := by omega
  have i9 : (p : Int) + 1 ≤ (p : Int) + ((d : Int) + 2) := by omega
  have i10 : ((p : Int) + 1).toNat = p + 1 := by omega
  clear hzg e9 h1 hl h hv hb hg hmc hcm hcs htk hcs0 hcsl hold hol e2 hco hcell hcello hrl hcur0 hl0 hxl hf1 hcur1 hl1 hf2 hcur2 hl2 ht2 hG hbase
  rw [← HGe.out] at HZG ⊢
  go_enter Try.func62, Try.ntmps62
  go_wp2_with (first
    | ((with_reducible refine wpList_run rfl (.tmp 34) (.tmp 39) _ _ .append Builtin.append_ bappend rfl (.slice (some ⟨g, 0, none⟩) p (p + (d + 1))) (.int .i64 ((p : Int) + ((d : Int) + 1) + 1 - (p : Int))) rfl rfl _ _ HZG.out ?_); obtain ⟨W0, hW0⟩ : ∃ W0, W0 = w.drew.alloc (.cells (old ++ rest).toArray 102) := ⟨_, rfl⟩; rw [← hW0]; have HB0 : Hid (Blk W0 G cur0 102) := (by show Blk _ _ _ _; rw [hW0, HGe.out, HL.out]; exact heap_alloc_new w.drew _); have HQ0 : Hid (Below w.heap.size w W0) := (by show Below _ _ _; rw [hW0]; exact (below_drewN (Below.refl _ w) 1).alloc (Nat.le_refl _) _); have HV0 : Hid (Blk W0 vb (msgCells x).toArray 102) := HV.out.keep (Keep.none HQ0.out) id; clear hW0)
    | ((with_reducible refine wpList_run rfl (.tmp 43) (.tmp 44) _ _ .copy Builtin.copy_ bcopy rfl (.slice (some ⟨G, p * 2, none⟩) (d + 2) (c' - p)) (.slice (some ⟨vb, 0, none⟩) 1 1) rfl rfl _ _ (HCP1.out W0 HB0.out HV0.out) ?_); obtain ⟨W1, hW1⟩ : ∃ W1, W1 = W0.setRow G cur1 := ⟨_, rfl⟩; rw [← hW1]; have HB1 : Hid (Blk W1 G cur1 102) := (by show Blk _ _ _ _; rw [hW1]; exact setRow_heap W0 G cur0 _ 102 _ HB0.out); have HQ1 : Hid (Below w.heap.size w W1) := (by show Below _ _ _; rw [hW1]; exact bkeep HQ0.out ((Keep.refl (fun k => k = G) W0).setRow (.inl rfl) _) (Nat.le_refl _) (fun k hk => by have := HGe.out; omega)); clear hW1))
  have HC1 : Hid (∀ j u, cs[j]? = some u → W1.drew.cell? (Addr.add ⟨g, p * 2, none⟩ j) = some u) := fun j u hu => by
    have e : (⟨g, p * 2, none⟩ : Addr).add j = ⟨g, p * 2 + j, none⟩ := by unfold Addr.add; split <;> simp_all
    have h := HCELL.out j u hu
    rw [e] at h ⊢
    exact (((Keep.none HQ1.out).drewN 1).cell (p := ⟨g, p * 2 + j, none⟩) hgl id).trans h
  have wk : IntKind.i64.wrap ((p : Int) + 1) = (p : Int) + 1 := IntWalk.i64_in _ (by omega)
  go_region_held3 (fun _ => True) (trivial)
    (first
      | (refine step_run rfl (.tmp 50) (.tmp 53) _ _ .copy Builtin.copy_ bcopy rfl (.slice (some ⟨G, (p + 1) * 2, none⟩) (p + (d + 2) - (p + 1)) (c' - (p + 1))) (.slice (some ⟨g, p * 2, none⟩) (d + 1) (d + 1)) rfl rfl _ _ (HCP2.out W1.drew HB1.out HC1.out) ?_; obtain ⟨W2, hW2⟩ : ∃ W2, W2 = W1.drew.setRow G cur2 := ⟨_, rfl⟩; rw [← hW2]; have HW2 := Lib.hid hW2; clear hW2))
  clear wk
  go_wp2
  go_ret
  refine ⟨c', rfl, HFIN.out _ ?_, ?_⟩
  · rw [HW2.out]; exact setRow_heap W1.drew G cur1 _ 102 _ HB1.out
  · rw [HW2.out]
    have h : Below w.heap.size w (W1.drew.setRow G cur2) := bkeep (below_drewN HQ1.out 1) ((Keep.refl (fun k => k = G) W1.drew).setRow (.inl rfl) _) (Nat.le_refl _) (fun k hk => by have := HGe.out; omega)
    rw [← HGe.out] at h
    exact h

/-- slices.Insert of one. -/
theorem insert_msg (base vb p : Nat) (v : Value) (l : List Msg) (x : Msg) (w : World) (h1 : ∀ x : Msg, ∀ v ∈ msgCells x, v.oneCell' = true) (hp : p ≤ l.length) (hbig : l.length ≤ 1000000000) (hbase : base ≤ w.heap.size)
    (h : w.ownsRow base 102 2 v l.length (l.flatMap msgCells)) (hv : Blk w vb (msgCells x).toArray 102) (hne : v.ownBlock ≠ some vb) :
    Calls Try.prog 62 #[v, .int .i64 p, .slice (some ⟨vb, 0, none⟩) 1 1] w fun e w' => ∃ A c, e = .returned (.slice A (l.length + 1) c) ∧
      w'.ownsRow base 102 2 (.slice A (l.length + 1) c) (l.length + 1) ((put1 l p x).flatMap msgCells) ∧ Keep (fun k => v.ownBlock = some k) w w' ∧ (∀ g, (Value.slice A (l.length + 1) c).ownBlock = some g → v.ownBlock = some g ∨ w.heap.size ≤ g) := by
  by_cases he : p = l.length
  · subst he
    exact insert_end_msg base vb v l x w h1 hbig hbase h hv
  · obtain ⟨d, hd⟩ : ∃ d, l.length = p + (d + 1) := ⟨l.length - p - 1, by omega⟩
    rcases h.2 with ⟨hv0, hx⟩ | ⟨g, cap, cur, rfl, hg, hh, hc1, hc2, hc3, hc4⟩
    · omega
    · by_cases hr : l.length + 1 ≤ cap
      · refine (insert_room_msg base vb g cap p d l x w h1 hbig hd hr h hv (fun e => hne (by subst e; rfl))).mono ?_
        rintro e w' ⟨rfl, ho, hk⟩
        exact ⟨_, _, rfl, ho, hk.mono (fun k _ e => by subst e; rfl), fun g' hg' => .inl hg'⟩
      · obtain rfl : cap = l.length := by omega
        refine (insert_grow_msg base vb g p d l x w h1 hbig hd hbase h hv).mono ?_
        rintro e w' ⟨c', rfl, ho, hb⟩
        exact ⟨_, _, rfl, ho, Keep.ofBelowAll hb, fun g' hg' => by cases hg'; exact .inr (Nat.le_refl _)⟩
end
section
open Go.RowKit
set_option linter.unusedVariables false
set_option linter.unusedSimpArgs false

theorem info_byte : (Try.prog.info? 5).map (fun i => (i.zero, i.size, i.bytes)) = some (some (.int .u8 0), 1, 1) := by kernel_rfl

set_option maxRecDepth 100000 in
set_option maxHeartbeats 1000000 in
/-- slices.Clone: new cells, the same as the old ones; nil of nil. -/
theorem clone_byte (v : Value) (n : Nat) (xs : List Value) (w : World) (h : Reads w 1 v n xs) (hn : n * 1 ≤ 140737488351232) (h1 : ∀ u ∈ xs, u.oneCell' = true) :
    Calls Try.prog 47 #[v] w fun e w' => ∃ A c, e = .returned (.slice A n c) ∧ w'.ownsRow w.heap.size 5 1 (.slice A n c) n xs ∧ Below w.heap.size w w' ∧ (v = .slice none 0 0 ↔ (.slice A n c : Value) = .slice none 0 0) := by
  have hR := h
  obtain ⟨hl, A, c, rfl, h2, h3, h4, h5, h6⟩ := h
  obtain ⟨i0, hi, hz0, hz1, hz2⟩ := info_parts info_byte
  have q22 : ∀ (w : World) (a : Option Addr) (n c n' c' : Nat), (binOp .eql 23 (.slice a n c) (.slice none n' c')).run Try.prog w = .ok (.bool a.isNone) w := fun w a n c n' c' => Lib.run_eql_slice_nil w _ _ a n c n' c' Try.underlying23
  have u22 : ∀ w, Sem.run Try.prog (underlying 23) w = .ok (TypeDesc.slice 5) w := run_underlying Try.underlying23
  cases A with
  | none =>
    obtain ⟨rfl, rfl⟩ := h4 rfl
    have : xs = [] := List.eq_nil_of_length_eq_zero (by simpa using hl)
    subst this
    go_enter Try.func47, Try.ntmps47
    go_wp2
    go_ret
    exact ⟨_, _, rfl, World.ownsRow_nil _ _ _ _, Below.refl _ _, by simp⟩
  | some a =>
    have hc : ∀ j u, xs[j]? = some u → w.cell? (a.add j) = some u := fun j u hu => by
      obtain ⟨b, o, c', he, hc⟩ := hR.at j u hu
      cases he
      have e : (⟨b, o, none⟩ : Addr).add j = ⟨b, o + j, none⟩ := by unfold Addr.add; split <;> simp_all
      rw [e]; exact hc
    have HC := Lib.hid hc
    have HL := Lib.hid hl
    clear hc hl h4 h5 h6 hR
    go_enter Try.func47, Try.ntmps47
    go_wp2_with (at_builtin; refine wpList_append_own _ rfl _ _ 23 rfl w.heap.size 5 i0 (.int .u8 0) 1 1 Try.underlying23 hi hz0 hz1 hz2 rfl (by decide) _ _ _ rfl (World.ownsRow_made w #[] 0 (Nat.le_refl _) (Nat.zero_le _) rfl) a n c xs rfl ?qc1 ?qc2 ?qc3 ?qc4 ?qc5 ?qc6 ?_)
    case qc1 => simpa using HL.out
    case qc2 =>
      intro j u hj
      first | exact HC.out j u hj | exact Lib.cell?_alloc_some _ (HC.out j u hj)
    case qc3 => exact h1
    case qc4 => have := h3; omega
    case qc5 => omega
    try (case qc6 => simp)
    intro v' w1 hown hgrow hnil
    go_wp2
    go_ret
    obtain ⟨A', c', rfl⟩ := ownsRow_slice hown
    refine ⟨A', c', by simp, by simpa using hown, ((Below.refl _ w).alloc (Nat.le_refl _) _).grown hgrow (by simp) (by intro k hk; simp [Value.ownBlock] at hk; omega), ?_⟩
    exact ⟨fun h => by simp at h, fun h => (hnil (by simpa using h)).elim⟩
end
end Go.Proofs.Ytlodiibmofeikaa
