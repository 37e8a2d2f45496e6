/- ranges: how many Cut leaves of what it reaches. -/
import Derived.Test.YthjlbbbkghigfaaRgPlain3
namespace Go.Proofs.Ythjlbbbkghigfaa
open Go.RowKit
set_option linter.unusedVariables false
set_option linter.unusedSimpArgs false

/-- the first of the two parts of a stretch, as far as it is gone through -/
def pcsN (a c : Int) (x : Int × Int) : Nat → List (Int × Int)
  | 0 => []
  | 1 => if x.1 < min x.2 a then [(x.1, min x.2 a)] else []
  | _ => pcs a c x
theorem pcs_len (a c : Int) (x : Int × Int) : (pcs a c x).length ≤ 2 := by
  unfold pcs; split <;> split <;> simp
theorem pcsN_len (a c : Int) (x : Int × Int) (i : Nat) : (pcsN a c x i).length ≤ 2 := by
  match i with
  | 0 => simp [pcsN]
  | 1 =>
    show (if x.1 < min x.2 a then [(x.1, min x.2 a)] else []).length ≤ 2
    split <;> simp
  | i + 2 => exact pcs_len a c x
theorem pcs_mem {a c : Int} {x y : Int × Int} (h : y ∈ pcs a c x) : y.1 < y.2 ∧ x.1 ≤ y.1 ∧ y.2 ≤ x.2 := by
  unfold pcs at h
  rcases List.mem_append.1 h with h | h
  · split at h
    · rw [List.mem_singleton] at h; subst h; simp only; omega
    · cases h
  · split at h
    · rw [List.mem_singleton] at h; subst h; simp only; omega
    · cases h
/-- Cut's loop -/
structure CutI (l : List (Int × Int)) (a c : Int) (p q : Nat) (left : List (Int × Int)) : Prop where
  pq : p ≤ q
  ql : q ≤ l.length
  eq : left = ((l.take q).drop p).flatMap (pcs a c)
  two : left.length ≤ 2
  one : ∀ x, l[q]? = some x → x.1 < c → left.length ≤ 1
  none : p = q → left = []
theorem CutI.start {l : List (Int × Int)} {a c : Int} {p : Nat} (h : p ≤ l.length) : CutI l a c p p [] :=
  ⟨Nat.le_refl _, h, by rw [List.drop_of_length_le (by rw [List.length_take]; omega)]; rfl, by simp, fun _ _ _ => by simp, fun _ => rfl⟩
theorem CutI.next {l : List (Int × Int)} {a c : Int} {p q : Nat} {left : List (Int × Int)} (h : CutI l a c p q left) (g : Good (-1) l) (hac : a < c) (hp : Parts l a p) {x : Int × Int} (hx : l[q]? = some x) (hxc : x.1 < c) : CutI l a c p (q + 1) (left ++ pcs a c x) := by
  have hq := (List.getElem?_eq_some_iff.1 hx).1
  have h1 := h.one x hx hxc
  have hpq := h.pq
  have hsec : ∀ y, l[q + 1]? = some y → y.1 < c → ¬ (max x.1 c < x.2) := fun y hy hyc => by
    have := g.rise (i := q) (j := q + 1) (by omega) hx hy
    omega
  have hfst : p < q → ¬ (x.1 < min x.2 a) := fun hlt => by
    have h0 := List.getElem?_eq_getElem (show p < l.length by omega)
    have := g.rise (i := p) (j := q) hlt h0 hx
    have := hp.hi p _ (Nat.le_refl _) h0
    omega
  refine ⟨by omega, by omega, ?_, ?_, fun y hy hyc => ?_, fun e => by omega⟩
  · rw [mid_snoc hpq hx, List.flatMap_append, ← h.eq]
    simp
  · rcases Nat.lt_or_ge p q with hlt | hge
    · unfold pcs
      rw [if_neg (hfst hlt)]
      split <;> simp <;> omega
    · rw [h.none (by omega)]
      exact pcs_len a c x
  · rcases Nat.lt_or_ge p q with hlt | hge
    · unfold pcs
      rw [if_neg (hfst hlt), if_neg (hsec y hy hyc)]
      simpa using h1
    · rw [h.none (by omega)]
      unfold pcs
      rw [if_neg (hsec y hy hyc)]
      split <;> simp
theorem CutI.few {l : List (Int × Int)} {a c : Int} {p q : Nat} {left : List (Int × Int)} (h : CutI l a c p q left) : p + left.length ≤ q ∨ (q = p + 1 ∧ left.length = 2) := by
  have h1 := h.pq
  have h2 := h.two
  rcases Nat.lt_or_ge p q with hlt | hge
  · omega
  · rw [h.none (by omega)]
    simp only [List.length_nil]
    omega
theorem CutI.bounds {l : List (Int × Int)} {a c : Int} {p q : Nat} {left : List (Int × Int)} (h : CutI l a c p q left) (g : Good (-1) l) : ∀ y ∈ left, 0 ≤ y.1 ∧ y.1 ≤ y.2 ∧ y.2 ≤ 16384 := fun y hy => by
  rw [h.eq] at hy
  obtain ⟨x, hx, hy⟩ := List.mem_flatMap.1 hy
  obtain ⟨h1, h2, h3⟩ := pcs_mem hy
  obtain ⟨g1, g2, g3⟩ := g.mem x (List.mem_of_mem_take (List.mem_of_mem_drop hx))
  omega
theorem CutI.done {l : List (Int × Int)} {a c : Int} {p q : Nat} {left : List (Int × Int)} (h : CutI l a c p q left) (g : Good (-1) l) (hac : a < c) (hp : Parts l a p) (hend : ∀ x, l[q]? = some x → c ≤ x.1) : rep l p q left = cutL a c l := by
  rw [h.eq]
  exact cut_rep g (by omega) h.pq (fun i x hi hx => by have := hp.lo i x hi hx; omega) hend
end Go.Proofs.Ythjlbbbkghigfaa
