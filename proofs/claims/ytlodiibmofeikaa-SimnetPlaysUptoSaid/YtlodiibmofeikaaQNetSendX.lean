/- simnet: a send, in the lists. -/
import Derived.Test.YtlodiibmofeikaaQNetStepD
namespace Go.Proofs.Ytlodiibmofeikaa
open Go.RowKit Go.Shelf
set_option linter.unusedVariables false
set_option linter.unusedSimpArgs false

/-- one of the model's lists gets a message -/
def sendX1 (room due : Int) (bs : List Int) (F : List FD) (z : List (List RM) × Nat × StN) (r : Nat) : List (List RM) × Nat × StN :=
  (z.1.set r (giveX room due bs (fateOf F z.2.1) (z.1.getD r []) z.2.2).1, usedN F z.2.1, (giveX room due bs (fateOf F z.2.1) (z.1.getD r []) z.2.2).2)
def sendX (room due : Int) (bs : List Int) (F : List FD) (ms : List Nat) (z : List (List RM) × Nat × StN) : List (List RM) × Nat × StN := ms.foldl (sendX1 room due bs F) z
theorem sendX_snoc (room due : Int) (bs : List Int) (F : List FD) (ms : List Nat) (r : Nat) (z : List (List RM) × Nat × StN) : sendX room due bs F (ms ++ [r]) z = sendX1 room due bs F (sendX room due bs F ms z) r := by
  unfold sendX; rw [List.foldl_append]; rfl
theorem sendX_len (room due : Int) (bs : List Int) (F : List FD) (z : List (List RM) × Nat × StN) : ∀ ms : List Nat, (sendX room due bs F ms z).1.length = z.1.length := by
  intro ms
  unfold sendX
  induction ms generalizing z with
  | nil => rfl
  | cons r ms ih => rw [List.foldl_cons, ih]; unfold sendX1; rw [List.length_set]
theorem SendL.rel {room due : Int} {bs : List Int} {F : List FD} {L0 L : List (List Msg)} {u0 u : Nat} {s0 s : StN} {ms : List Nat} {Xs0 : List (List RM)} (h : SendL room due bs F L0 u0 s0 ms L u s) (hd : 0 ≤ due ∧ due ≤ 1099511628000) (hb : bs.length ≤ 320)
    (h0 : ∀ (i : Nat) (l : List Msg) (X : List RM), L0[i]? = some l → Xs0[i]? = some X → l.map toR = sorted X) (hlen : L0.length = Xs0.length) :
    (∀ (i : Nat) (l : List Msg) (X : List RM), L[i]? = some l → (sendX room due bs F ms (Xs0, u0, s0)).1[i]? = some X → l.map toR = sorted X) ∧ u = (sendX room due bs F ms (Xs0, u0, s0)).2.1 ∧ s = (sendX room due bs F ms (Xs0, u0, s0)).2.2 := by
  induction h with
  | nil => exact ⟨h0, rfl, rfl⟩
  | @snoc ms L u s r l l' s' h1 h2 h3 ih =>
    obtain ⟨i1, i2, i3⟩ := ih
    have hL := h1.size
    have hX := sendX_len room due bs F (Xs0, u0, s0) ms
    have hr : r < L.length := (List.getElem?_eq_some_iff.1 h2).1
    rw [sendX_snoc]
    generalize sendX room due bs F ms (Xs0, u0, s0) = z at *
    have hX : z.1.length = Xs0.length := hX
    have hrz : r < z.1.length := by omega
    have hz : z.1[r]? = some (z.1.getD r []) := by rw [List.getD_eq_getElem?_getD, List.getElem?_eq_getElem hrz]; rfl
    have h4 := i1 r l _ h2 hz
    subst i2
    subst i3
    obtain ⟨g1, g2⟩ := giveL_rel h3 h4 hd hb
    unfold sendX1
    refine ⟨fun i m X hm hX2 => ?_, rfl, g2⟩
    by_cases e : r = i
    · subst e
      rw [List.getElem?_set_self hr] at hm
      rw [List.getElem?_set_self hrz] at hX2
      cases hm
      cases hX2
      exact g1
    · rw [List.getElem?_set_ne e] at hm hX2
      exact i1 i m X hm hX2
theorem giveX_len (room due : Int) (bs : List Int) (f : FD) (X : List RM) (s : StN) : (giveX room due bs f X s).1.length ≤ X.length + 2 := by
  unfold giveX
  split
  · simp
  · split
    · have h1 := layX_len room X ⟨due, strOfNums bs⟩ s.send.dbl
      have h2 := layX_len room (layX room X ⟨due, strOfNums bs⟩ s.send.dbl).1 ⟨due, strOfNums bs⟩ (layX room X ⟨due, strOfNums bs⟩ s.send.dbl).2
      omega
    · split
      · have := layX_len room X ⟨due + clamp f.n, strOfNums bs⟩ s.send.lat; omega
      · split
        · have := layX_len room X ⟨due, strOfNums (turnI bs f.n)⟩ s.send.trn; omega
        · have := layX_len room X ⟨due, strOfNums bs⟩ s.send; omega
theorem giveX_stb {room due n : Int} {bs : List Int} {f : FD} {X : List RM} {s : StN} (hs : StB n s) : StB (n + 3) (giveX room due bs f X s).2 := by
  obtain ⟨a, b, c, d, e⟩ := hs.send
  unfold giveX
  split
  · exact b.mono (by omega)
  · split
    · exact (layX_stb (layX_stb c)).mono (by omega)
    · split
      · exact (layX_stb d).mono (by omega)
      · split
        · exact (layX_stb e).mono (by omega)
        · exact (layX_stb a).mono (by omega)
/-- bounds on the way -/
theorem sendX_bd {room due n : Int} {bs : List Int} {F : List FD} {Xs0 : List (List RM)} {u0 N : Nat} {s0 : StN} (hs : StB n s0) (hX : ∀ X ∈ Xs0, X.length ≤ N) (ms : List Nat) (hms : ∀ r ∈ ms, r < Xs0.length) :
    StB (n + 3 * ms.length) (sendX room due bs F ms (Xs0, u0, s0)).2.2 ∧ (sendX room due bs F ms (Xs0, u0, s0)).2.1 ≤ u0 + ms.length ∧ ∀ X ∈ (sendX room due bs F ms (Xs0, u0, s0)).1, X.length ≤ N + 2 * ms.length := by
  have key : ∀ k, k ≤ ms.length → StB (n + 3 * k) (sendX room due bs F (ms.take k) (Xs0, u0, s0)).2.2 ∧ (sendX room due bs F (ms.take k) (Xs0, u0, s0)).2.1 ≤ u0 + k ∧ ∀ X ∈ (sendX room due bs F (ms.take k) (Xs0, u0, s0)).1, X.length ≤ N + 2 * k := by
    intro k
    induction k with
    | zero => intro _; exact ⟨hs.mono (by omega), by simp [sendX], fun X h => by have := hX X h; omega⟩
    | succ k ih =>
      intro hk
      obtain ⟨i1, i2, i3⟩ := ih (by omega)
      have hr : ms[k]? = some ms[k] := List.getElem?_eq_getElem (by omega)
      rw [List.take_add_one, hr]
      show _ ∧ _ ∧ _
      simp only [Option.toList_some]
      rw [sendX_snoc]
      have hl := sendX_len room due bs F (Xs0, u0, s0) (ms.take k)
      generalize sendX room due bs F (ms.take k) (Xs0, u0, s0) = z at *
      have hl : z.1.length = Xs0.length := hl
      have hrz : ms[k] < z.1.length := by have := hms ms[k] (List.getElem_mem (by omega)); omega
      unfold sendX1
      refine ⟨(giveX_stb i1).mono (by push_cast; omega), by have := usedN_le F z.2.1; show usedN F z.2.1 ≤ _; omega, fun X hX => ?_⟩
      rcases List.mem_or_eq_of_mem_set hX with h | rfl
      · have := i3 X h; omega
      · have h1 := giveX_len room due bs (fateOf F z.2.1) (z.1.getD ms[k] []) z.2.2
        have h2 : (z.1.getD ms[k] []).length ≤ N + 2 * k := i3 _ (by rw [List.getD_eq_getElem?_getD, List.getElem?_eq_getElem hrz]; exact List.getElem_mem hrz)
        omega
  have h := key ms.length (Nat.le_refl _)
  rw [List.take_length] at h
  exact h
end Go.Proofs.Ytlodiibmofeikaa
