/- A range over an iterator that keeps a state of its own in cells (it stores between the rounds) and tells its caller what lies where (Y): the caller's law. -/
import Derived.Test.YtlodiibmofeikaaKeepC
namespace Go.Proofs.Ytlodiibmofeikaa
open Go.RowKit
set_option linter.unusedVariables false
set_option linter.unusedSimpArgs false

theorem keepC_turned {T : Nat → Prop} {A0 A : World} (h : Keep T A0 A) {q : Nat} {o o' : Obj} (ho : A.heap[q]? = some o) (hc : o.isCells = false) : KeepC T A0 (A.putObj q o') := by
  refine ⟨by have := h.size; simpa using this, fun k cs T' hk hk0 => ?_⟩
  have h1 := (h.block k (Array.getElem?_eq_some_iff.1 hk0).1 hk).trans hk0
  by_cases e : k = q
  · subst e
    rw [h1] at ho
    cases ho
    cases hc
  · exact (World.putObj_heap_other e).trans h1
/-- what such an iterator does to whatever its caller says (J), which abides the iterator's own blocks T; S, Sp say how it ends, in the world too -/
def SeqOwnY {α : Type} (F : Fence) (n : Nat) (P : Program) (g : Nat) (lb : Array Value) (encs : α → Array Value) (Kp : World → World → Prop) (T : Nat → Prop) (Y : List α → α → Nat → World → Prop) (S Sp : List α → World → Prop) (w : World) : Prop :=
  ∀ (l : Nat) (J Jx : List α → World → Prop) (W : World), Below w.heap.size w W → (∀ s A B, J s A → Keep T A B → J s B) →
    (∀ pre x A0 A, J pre A0 → Keep T A0 A → J pre A → Y pre x A0.heap.size A → YieldAt F (n - 1) P l (encs x) A fun e B => (e = .returned (.bool true) ∧ J (pre ++ [x]) B ∧ Kp A B) ∨ (e = .returned (.bool false) ∧ Jx (pre ++ [x]) B ∧ Kp A B)) →
    J [] W → CallsIn F n P g (#[.func (.yield l) #[] #[]] ++ lb) W fun e W' => (∃ v, e = .returned v) ∧ ((∃ xs, S xs W' ∧ J xs W') ∨ ∃ pre, Sp pre W' ∧ Jx pre W')
/-- how a round's body may be left -/
def roundOwnY {α : Type} (Kp : World → World → Prop) (I : List α → World → Prop) (Ix : Code → List α → World → Prop) (xs : List α) (W : World) : Exit → Act → World → Prop
  | .normal, _, B => KeepsOthers W B ∧ Kp W B ∧ I xs B
  | .ret, _, B => KeepsOthers W B ∧ Kp W B ∧ Ix .ret xs B
  | .exit id, _, B => KeepsOthers W B ∧ Kp W B ∧ Ix (.exit id) xs B
  | _, _, _ => False
/-- what a turn of a block that holds no cells leaves as it is -/
def TurnsY {β : Type} (B : Nat) (I : β → World → Prop) : Prop := ∀ s W l o o', I s W → B ≤ l → W.heap[l]? = some o → o.isCells = false → I s (W.putObj l o')
theorem wpIn_rangeOwnY {α : Type} {F : Fence} {n : Nat} {P : Program} {g : Operand} {ps : Array Tmp} {assign body : Code} {Q : Exit → Act → World → Prop} {a : Act} {w : World} (hro : F.round = none) (h1 : 1 ≤ n)
    {gf : Nat} {lb : Array Value} (hg : a.eval g = .func (.func gf) #[] lb) (hFg : F.fn gf) (eg : ∀ args w, (callFunc gf args).run P w = .ok (.enter gf args) w)
    {encs : α → Array Value} {Kp : World → World → Prop} {T : Nat → Prop} {Y : List α → α → Nat → World → Prop} {S Sp : List α → World → Prop} (hseq : SeqOwnY F (n - 1) P gf lb encs Kp T Y S Sp w)
    (hYt : ∀ pre x N W l o o', Y pre x N W → w.heap.size ≤ l → W.heap[l]? = some o → o.isCells = false → Y pre x N (W.putObj l o'))
    (hKt : ∀ {A B C : World}, Kp A B → Kp B C → Kp A C) (hKb : ∀ (W : World) (l : Nat) (o o' : Obj), w.heap.size ≤ l → W.heap[l]? = some o → o.isCells = false → Kp W (W.putObj l o')) (hT : ∀ k, T k → k < w.heap.size) (hps : ∀ x, (encs x).size = ps.size)
    (hS : TurnsY w.heap.size S) (hSp : TurnsY w.heap.size Sp)
    (I : List α → World → Prop) (Ix : Code → List α → World → Prop) (hI : TurnsY w.heap.size I) (hIx : ∀ c, TurnsY w.heap.size (Ix c)) (hIT : ∀ s A B, I s A → Keep T A B → I s B) (h0 : I [] w) (a₁ : α → Act)
    (hassign : ∀ (l : Nat) (x : α) (W : World) (K : Act → World → Prop), K (a₁ x) W → assign.wpIn (F.inRound l) (n - 1 - 1) P (Exit.then K (fun _ _ _ => False)) { tmps := (ps.zip (encs x)).foldl (fun t (p, v) => t.setIfInBounds p v) a.tmps, defers := [] } W)
    (hbody : ∀ (l : Nat) (pre : List α) (x : α) (W0 W : World), I pre W0 → KeepC T W0 W → I pre W → Y pre x W0.heap.size W → body.wpIn (F.inRound l) (n - 1 - 1) P (roundOwnY Kp I Ix (pre ++ [x]) W) (a₁ x) W)
    (hdone : ∀ (D : Nat) (xs : List α) (W : World), w.heap.size ≤ D → S xs W → I xs W → W.heap[D]? = some (.deferred (some [])) → Q .normal { a with defers := { target := .collected D, args := #[] } :: a.defers } W)
    (hstop : ∀ (D : Nat) (c : Code) (pre : List α) (W : World), w.heap.size ≤ D → Sp pre W → Ix c pre W → W.heap[D]? = some (.deferred (some [])) → c.wpIn F n P Q { a with defers := { target := .collected D, args := #[] } :: a.defers } W) :
    (Code.rangeFunc g ps assign body).wpIn F n P Q a w := by
  refine wpIn_rangeFunc fun fn hfn => ?_
  rw [hro]
  -- the loop's record: ready, busy or done; the jump that waits
  let R : LoopState → Option Code → Loop := fun st pe => { state := st, pending := pe, fn, tmps := a.tmps, params := ps, assign, body, defers := w.heap.size }
  obtain ⟨V, hV⟩ : ∃ V, V = (w.alloc (.deferred (some []))).alloc (.loop (R .ready none)) := ⟨_, rfl⟩
  have hbV : Below w.heap.size w V := by rw [hV]; exact ((Below.refl _ w).alloc (Nat.le_refl _) _).alloc (by simp) _
  have hVl : V.heap[w.heap.size + 1]? = some (.loop (R .ready none)) := by
    rw [hV]
    have h := World.alloc_heap_new (w.alloc (.deferred (some []))) (.loop (R .ready none))
    rwa [World.size_alloc] at h
  have hVd : V.heap[w.heap.size]? = some (.deferred (some [])) := by rw [hV]; exact (Below.heap_alloc _ _ _ (by simp)).trans (World.alloc_heap_new w _)
  have hVI : I [] V := by rw [hV]; exact hIT _ _ _ h0 (((Keep.refl T w).alloc _).alloc _)
  -- the two blocks of book-keeping
  let Bk : LoopState → Option Code → World → Prop := fun st pe W => W.heap[w.heap.size + 1]? = some (.loop (R st pe)) ∧ W.heap[w.heap.size]? = some (.deferred (some []))
  have hBT : ∀ st pe A B, Bk st pe A → Keep T A B → Bk st pe B := fun st pe A B h k =>
    ⟨(k.block _ (Array.getElem?_eq_some_iff.1 h.1).1 (fun e => by have := hT _ e; omega)).trans h.1, (k.block _ (Array.getElem?_eq_some_iff.1 h.2).1 (fun e => by have := hT _ e; omega)).trans h.2⟩
  have hBput : ∀ st pe st' pe' W, Bk st pe W → Bk st' pe' (W.putObj (w.heap.size + 1) (.loop (R st' pe'))) := fun st pe st' pe' W h =>
    ⟨World.putObj_heap_same (Array.getElem?_eq_some_iff.1 h.1).1, (World.putObj_heap_other (by omega)).trans h.2⟩
  have hBK : ∀ st pe A B, Bk st pe A → KeepsOthers A B → Bk st pe B := fun st pe A B h k => ⟨k.same _ _ h.1 rfl, k.same _ _ h.2 rfl⟩
  refine ⟨w.heap.size + 1, [{ target := .collected w.heap.size, args := #[] }], V, { target := .fn (.func gf) lb, args := #[.func (.yield (w.heap.size + 1)) #[] #[]] }, V, gf, #[.func (.yield (w.heap.size + 1)) #[] #[]] ++ lb, V, ?_, ?_, ?_, ?_, fun _ => h1, ?_⟩
  · rw [hV]; exact run_enterLoop_outer _ _ _ _ _
  · simp only [resolve, hg]
    simp [go_sem]
  · intro f' hf'
    simp [Target.leads] at hf'
    subst hf'
    exact hFg
  · simp [invoke, go_sem, eg]
  · refine (hseq (w.heap.size + 1) (fun pre W => I pre W ∧ Bk .ready none W) (fun pre W => ∃ c, Ix c pre W ∧ Bk .done (some c) W) V hbV (fun s A B h k => ⟨hIT _ _ _ h.1 k, hBT _ _ _ _ h.2 k⟩) ?_ ⟨hVI, hVl, hVd⟩).mono ?_
    · rintro pre x A0 A ⟨hi0, hb0⟩ hkt ⟨hi, hb⟩ hy0
      have hy := run_yield (P := P) (args := encs x) hb.1 (hps x)
      refine ⟨fn, _, assign, body, hy, roundIn_of_wpIn hfn (hassign _ x A _ ?_)⟩
      refine ⟨_, run_beginRound hb.1 rfl, ?_⟩
      have hb2 := hBput .ready none .busy none A hb
      refine wpIn_mono (hbody _ pre x A0 _ hi0 (keepC_turned hkt hb.1 rfl) (hI _ _ _ _ _ hi (by omega) hb.1 rfl) (hYt _ _ _ _ _ _ _ hy0 (by omega) hb.1 rfl)) ?_
      have hk1 : Kp A (A.putObj (w.heap.size + 1) (.loop (R .busy none))) := hKb _ _ _ _ (by omega) hb.1 rfl
      rintro e a3 B hp
      have fin : ∀ (j : Option Code), KeepsOthers (A.putObj (w.heap.size + 1) (.loop (R .busy none))) B → (Instr.endRound (w.heap.size + 1) j).run P B = .ok (.bool j.isNone) (B.putObj (w.heap.size + 1) (.loop (R (if j.isNone then .ready else .done) j))) ∧ Bk .busy none B := fun j hk => by
        have hB := hBK _ _ _ _ hb2 hk
        exact ⟨run_endRound (P := P) j hB.1, hB⟩
      cases e with
      | normal =>
        obtain ⟨hk, hkp, hi3⟩ := hp
        obtain ⟨hr, hB⟩ := fin none hk
        exact ⟨_, _, hr, .inl ⟨rfl, ⟨hI _ _ _ _ _ hi3 (by omega) hB.1 rfl, hBput _ _ .ready none _ hB⟩, hKt (hKt hk1 hkp) (hKb _ _ _ _ (by omega) hB.1 rfl)⟩⟩
      | ret =>
        obtain ⟨hk, hkp, hi3⟩ := hp
        obtain ⟨hr, hB⟩ := fin (some .ret) hk
        exact ⟨_, _, hr, .inr ⟨rfl, ⟨_, hIx _ _ _ _ _ _ hi3 (by omega) hB.1 rfl, hBput _ _ .done (some .ret) _ hB⟩, hKt (hKt hk1 hkp) (hKb _ _ _ _ (by omega) hB.1 rfl)⟩⟩
      | exit id =>
        obtain ⟨hk, hkp, hi3⟩ := hp
        obtain ⟨hr, hB⟩ := fin (some (.exit id)) hk
        exact ⟨_, _, hr, .inr ⟨rfl, ⟨_, hIx _ _ _ _ _ _ hi3 (by omega) hB.1 rfl, hBput _ _ .done (some (.exit id)) _ hB⟩, hKt (hKt hk1 hkp) (hKb _ _ _ _ (by omega) hB.1 rfl)⟩⟩
      | goto t => exact hp.elim
      | panic ch => exact hp.elim
      | outgrown => exact hp.elim
    · rintro e W2 ⟨⟨v, rfl⟩, ⟨xs, hs, hi, hb⟩ | ⟨pre, hs, c, hi, hb⟩⟩
      · exact ⟨none, _, run_endLoop (P := P) hb.1 (by simp [R]), hdone _ xs _ (Nat.le_refl _) (hS _ _ _ _ _ hs (by omega) hb.1 rfl) (hI _ _ _ _ _ hi (by omega) hb.1 rfl) ((World.putObj_heap_other (by omega)).trans hb.2)⟩
      · exact ⟨some c, _, run_endLoop (P := P) hb.1 (by simp [R]), hstop _ c pre _ (Nat.le_refl _) (hSp _ _ _ _ _ hs (by omega) hb.1 rfl) (hIx _ _ _ _ _ _ hi (by omega) hb.1 rfl) ((World.putObj_heap_other (by omega)).trans hb.2)⟩
end Go.Proofs.Ytlodiibmofeikaa
