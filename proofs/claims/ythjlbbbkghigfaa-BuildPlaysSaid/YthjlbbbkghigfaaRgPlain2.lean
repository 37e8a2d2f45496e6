/- ranges: stretches: the plain law of Add; there is one list of stretches. -/
import Derived.Test.YthjlbbbkghigfaaRgPlain
namespace Go.Proofs.Ythjlbbbkghigfaa
open Go.RowKit
set_option linter.unusedVariables false
set_option linter.unusedSimpArgs false

theorem good_uniq : ∀ {l l' : List (Int × Int)} {lo lo' : Int}, Good lo l → Good lo' l' → (∀ n, cov l n = cov l' n) → l = l'
  | [], [], _, _, _, _, _ => rfl
  | [], y :: s, _, _, _, h, hc => by
    have := hc y.1
    rw [cov_cons] at this
    have h1 := h.2.1
    simp [cov, h1] at this
  | x :: r, [], _, _, h, _, hc => by
    have := hc x.1
    rw [cov_cons] at this
    have h1 := h.2.1
    simp [cov, h1] at this
  | x :: r, y :: s, lo, lo', hx, hy, hc => by
    obtain ⟨x1, x2, x3, x4⟩ := hx
    obtain ⟨y1, y2, y3, y4⟩ := hy
    have cx : ∀ n, cov r n = true → x.2 < n := fun n h => (x4.lo_cov h).1
    have cy : ∀ n, cov s n = true → y.2 < n := fun n h => (y4.lo_cov h).1
    have inx : ∀ n, x.1 ≤ n → n < x.2 → (y.1 ≤ n ∧ n < y.2) ∨ y.2 < n := fun n h1 h2 => by
      have := hc n
      rw [cov_cons, cov_cons] at this
      have e : (decide (x.1 ≤ n) && decide (n < x.2)) = true := by simp [h1, h2]
      rw [e, Bool.true_or] at this
      by_cases e2 : cov s n = true
      · exact .inr (cy n e2)
      · rw [Bool.not_eq_true] at e2
        rw [e2, Bool.or_false] at this
        have h3 := this.symm
        simp at h3
        exact .inl h3
    have iny : ∀ n, y.1 ≤ n → n < y.2 → (x.1 ≤ n ∧ n < x.2) ∨ x.2 < n := fun n h1 h2 => by
      have := hc n
      rw [cov_cons, cov_cons] at this
      have e : (decide (y.1 ≤ n) && decide (n < y.2)) = true := by simp [h1, h2]
      rw [e, Bool.true_or] at this
      by_cases e2 : cov r n = true
      · exact .inr (cx n e2)
      · rw [Bool.not_eq_true] at e2
        rw [e2, Bool.or_false] at this
        simp at this
        exact .inl this
    have e1 : x.1 = y.1 := by
      have h1 := inx x.1 (Int.le_refl _) x2
      have h2 := iny y.1 (Int.le_refl _) y2
      omega
    have e2 : x.2 = y.2 := by
      rcases (by omega : x.2 = y.2 ∨ x.2 < y.2 ∨ y.2 < x.2) with h | h | h
      · exact h
      · have := iny x.2 (by omega) h; omega
      · have := inx y.2 (by omega) h; omega
    have e : x = y := Prod.ext e1 e2
    subst e
    rw [good_uniq x4 y4 fun n => ?_]
    have := hc n
    rw [cov_cons, cov_cons] at this
    by_cases hin : (decide (x.1 ≤ n) && decide (n < x.2)) = true
    · simp at hin
      have h1 : cov r n = false := by
        cases h : cov r n with
        | false => rfl
        | true => have := cx n h; omega
      have h2 : cov s n = false := by
        cases h : cov s n with
        | false => rfl
        | true => have := cy n h; omega
      rw [h1, h2]
    · rw [Bool.not_eq_true] at hin
      rw [hin, Bool.false_or, Bool.false_or] at this
      exact this

theorem cov_mid {l : List (Int × Int)} {p q : Nat} (hpq : p ≤ q) {n : Int} : cov l n = (cov (l.take p) n || cov ((l.take q).drop p) n || cov (l.drop q) n) := by
  rw [← cov_append, ← cov_append]
  congr 1
  have h1 : l.take p ++ (l.take q).drop p = l.take q := by
    have := List.take_append_drop p (l.take q)
    rwa [List.take_take, Nat.min_eq_left hpq] at this
  rw [h1, List.take_append_drop]
theorem tot_rep {l new : List (Int × Int)} {p q : Nat} (hpq : p ≤ q) : tot (rep l p q new) = tot l - tot ((l.take q).drop p) + tot new := by
  have h1 : l.take p ++ (l.take q).drop p = l.take q := by
    have := List.take_append_drop p (l.take q)
    rwa [List.take_take, Nat.min_eq_left hpq] at this
  have h2 : tot l = tot (l.take p) + tot ((l.take q).drop p) + tot (l.drop q) := by
    rw [← tot_append, h1, ← tot_append, List.take_append_drop]
  unfold rep
  rw [tot_append, tot_append]
  omega
theorem mid_snoc {l : List (Int × Int)} {p q : Nat} {x : Int × Int} (hpq : p ≤ q) (hx : l[q]? = some x) : (l.take (q + 1)).drop p = (l.take q).drop p ++ [x] := by
  rw [List.take_add_one, hx]
  have : p ≤ (l.take q).length := by rw [List.length_take]; have := (List.getElem?_eq_some_iff.1 hx).1; omega
  rw [List.drop_append_of_le_length this]
  rfl
/-- the loop of Add -/
structure AddI (l : List (Int × Int)) (a b : Int) (p q : Nat) (A B : Int) : Prop where
  pq : p ≤ q
  ql : q ≤ l.length
  a0 : 0 ≤ A
  aa : A ≤ a
  bb : b ≤ B
  b1 : B ≤ 16384
  pr : ∀ x ∈ l.take p, x.2 < A
  cv : ∀ n, (decide (A ≤ n) && decide (n < B)) = (decide (a ≤ n) && decide (n < b) || cov ((l.take q).drop p) n)
theorem AddI.start {l : List (Int × Int)} {a b : Int} {p : Nat} (hp : Parts l a p) (hpl : p ≤ l.length) (h0 : 0 ≤ a) (hb : b ≤ 16384) : AddI l a b p p a b := by
  refine ⟨Nat.le_refl _, hpl, h0, Int.le_refl _, Int.le_refl _, hb, fun x hx => ?_, fun n => ?_⟩
  · obtain ⟨i, hi, rfl⟩ := List.getElem_of_mem hx
    rw [List.length_take] at hi
    rw [List.getElem_take]
    exact hp.lo i _ (by omega) (List.getElem?_eq_getElem (by omega))
  · rw [List.drop_of_length_le (by rw [List.length_take]; omega)]
    simp [cov]
theorem AddI.next {l : List (Int × Int)} {a b : Int} {p q : Nat} {A B : Int} (h : AddI l a b p q A B) (g : Good (-1) l) (hab : a < b) (hp : Parts l a p) {x : Int × Int} (hx : l[q]? = some x) (hxB : x.1 ≤ B) : AddI l a b p (q + 1) (min A x.1) (max B x.2) := by
  have hq := (List.getElem?_eq_some_iff.1 hx).1
  obtain ⟨g1, g2, g3⟩ := g.mem x (List.mem_of_getElem? hx)
  have hxa := hp.hi q x h.pq hx
  refine ⟨by have := h.pq; omega, by omega, by have := h.a0; omega, by have := h.aa; omega, by have := h.bb; omega, by have := h.b1; omega, fun y hy => ?_, fun n => ?_⟩
  · have h1 := h.pr y hy
    obtain ⟨i, hi, rfl⟩ := List.getElem_of_mem hy
    rw [List.length_take] at hi
    rw [List.getElem_take] at h1 ⊢
    have := g.rise (i := i) (j := q) (by have := h.pq; omega) (List.getElem?_eq_getElem (by omega)) hx
    omega
  · rw [mid_snoc h.pq hx, cov_append, ← Bool.or_assoc, ← h.cv n]
    have := h.aa
    have := h.bb
    rw [Bool.eq_iff_iff]
    simp [cov]
    omega
/-- what Add makes of the stretches -/
theorem AddI.done {l : List (Int × Int)} {a b : Int} {p q : Nat} {A B : Int} (h : AddI l a b p q A B) (g : Good (-1) l) (hab : a < b) (hend : ∀ x, l[q]? = some x → B < x.1) :
    Good (-1) (rep l p q [(A, B)]) ∧ ∀ n, cov (rep l p q [(A, B)]) n = (cov l n || (decide (a ≤ n) && decide (n < b))) := by
  have hAB : A < B := by have := h.aa; have := h.bb; omega
  have hdr : ∀ y ∈ l.drop q, B < y.1 := fun y hy => by
    obtain ⟨i, hi, rfl⟩ := List.getElem_of_mem hy
    rw [List.length_drop] at hi
    rw [List.getElem_drop]
    have h0 := List.getElem?_eq_getElem (show q < l.length by omega)
    have h1 := hend _ h0
    rcases Nat.eq_zero_or_pos i with rfl | hi0
    · exact h1
    · have := g.rise (i := q) (j := q + i) (by omega) h0 (List.getElem?_eq_getElem (by omega))
      have := (g.mem l[q] (by simp)).2.1
      omega
  constructor
  · unfold rep
    refine Good.append (Good.append (g.take p) (fun x hx y hy => ?_) (good_one (by have := h.a0; omega) hAB h.b1)) (fun x hx y hy => ?_) (g.drop q)
    · have := h.pr x hx
      obtain rfl : y = (A, B) := by simpa using hy
      exact this
    · have := hdr y hy
      rcases List.mem_append.1 hx with hx | hx
      · have := h.pr x hx; omega
      · obtain rfl : x = (A, B) := by simpa using hx
        exact this
  · intro n
    unfold rep
    have em := cov_mid (l := l) h.pq (n := n)
    rw [cov_append, cov_append, em]
    have e : cov [(A, B)] n = (decide (A ≤ n) && decide (n < B)) := by simp [cov]
    rw [e, h.cv n]
    cases cov (l.take p) n <;> cases cov ((l.take q).drop p) n <;> cases cov (l.drop q) n <;> simp
theorem cnt_add {l l' : List (Int × Int)} {a b : Int} (g : Good (-1) l) (g' : Good (-1) l') (hc : ∀ n, cov l' n = (cov l n || (decide (a ≤ n) && decide (n < b)))) : tot l' - tot l = cnt 16384 (fun n => decide (a ≤ n) && decide (n < b) && !cov l n) := by
  rw [tot_cnt g (by omega), tot_cnt g' (by omega)]
  have e : cnt 16384 (cov l') = cnt 16384 (fun n => cov l n || (decide (a ≤ n) && decide (n < b) && !cov l n)) := cnt_congr (fun i _ => by
    rw [hc]; cases cov l i <;> simp)
  rw [e, cnt_or (fun i _ h => by simp [h])]
  omega
end Go.Proofs.Ythjlbbbkghigfaa
