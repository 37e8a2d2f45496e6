/- One element of a slice of structs. -/
import Derived.Test.YtlodiibmofeikaaMem
namespace Go.Proofs.Ytlodiibmofeikaa
open Go.RowKit
set_option linter.unusedVariables false
set_option linter.unusedSimpArgs false

theorem flatMap_length {α : Type} {cells : α → List Value} {s : Nat} (hs : ∀ x, (cells x).length = s) (l : List α) : (l.flatMap cells).length = l.length * s := by
  induction l with
  | nil => simp
  | cons z l ih => simp only [List.flatMap_cons, List.length_append, hs, ih, List.length_cons]; rw [Nat.add_mul]; omega
theorem flatMap_at {α : Type} {cells : α → List Value} {s : Nat} (hs : ∀ x, (cells x).length = s) : ∀ (l : List α) (k : Nat) (x : α) (j : Nat) (u : Value), l[k]? = some x → (cells x)[j]? = some u → (l.flatMap cells)[k * s + j]? = some u
  | [], k, x, j, u, h, _ => by simp at h
  | z :: l, 0, x, j, u, h, hu => by
    simp at h
    subst h
    have hj : j < s := by have := (List.getElem?_eq_some_iff.1 hu).1; rw [hs] at this; exact this
    rw [List.flatMap_cons, List.getElem?_append_left (by rw [hs]; omega)]
    simpa using hu
  | z :: l, k + 1, x, j, u, h, hu => by
    have hj : j < s := by have := (List.getElem?_eq_some_iff.1 hu).1; rw [hs] at this; exact this
    have e : (k + 1) * s = s + k * s := by rw [Nat.add_mul, Nat.one_mul, Nat.add_comm]
    rw [List.flatMap_cons, List.getElem?_append_right (by rw [hs, e]; omega), hs, show (k + 1) * s + j - s = k * s + j by rw [e]; omega]
    exact flatMap_at hs l k x j u (by simpa using h) hu
/-- the cells of one element -/
theorem Reads.elem {α : Type} {cells : α → List Value} {s : Nat} {w : World} {v : Value} {n : Nat} {l : List α} (h : Reads w s v n (l.flatMap cells)) (hs : ∀ x, (cells x).length = s) (hs0 : 0 < s) {k : Nat} {x : α} (hx : l[k]? = some x) :
    ∃ g o c, v = .slice (some ⟨g, o, none⟩) n c ∧ ∀ j u, (cells x)[j]? = some u → w.cell? ⟨g, o + k * s + j, none⟩ = some u := by
  obtain ⟨u0, hu0⟩ : ∃ u, (cells x)[0]? = some u := ⟨_, List.getElem?_eq_getElem (by rw [hs]; exact hs0)⟩
  obtain ⟨g, o, c, he, -⟩ := h.at _ _ (flatMap_at hs l k x 0 u0 hx hu0)
  refine ⟨g, o, c, he, fun j u hu => ?_⟩
  obtain ⟨g', o', c', he', hc⟩ := h.at _ _ (flatMap_at hs l k x j u hx hu)
  rw [he] at he'
  cases he'
  rw [Nat.add_assoc]
  exact hc
end Go.Proofs.Ytlodiibmofeikaa
