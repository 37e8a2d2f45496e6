/- ranges: the plain law of Gaps. -/
import Derived.Test.YtddoefkojlghnaaRgRef2
namespace Go.Proofs.Ytddoefkojlghnaa
open Go.RowKit
set_option linter.unusedVariables false
set_option linter.unusedSimpArgs false

/-- Gaps' loop -/
structure GapI (l : List (Int × Int)) (a b : Int) (q : Nat) (a' : Int) (out : List (Int × Int)) : Prop where
  lo : ∀ i x, i < q → l[i]? = some x → x.2 ≤ a'
  aa : a ≤ a'
  cv : ∀ n, cov out n = (inB a a' n && !cov l n)
  gd : Good (-1) out
  en : ∀ y ∈ out, y.2 < a'
  top : a' ≤ b ∨ ∀ n, b ≤ n → n < a' → cov l n = true
  a16 : a' ≤ 16384
theorem inB_nil {a n : Int} : inB a a n = false := by unfold inB; rw [Bool.eq_false_iff]; simp
theorem GapI.start {l : List (Int × Int)} {a b : Int} {p : Nat} (hp : Parts l a p) (hab : a ≤ b) (hb : b ≤ 16384) : GapI l a b p a [] :=
  ⟨fun i x hi hx => by have := hp.lo i x hi hx; omega, Int.le_refl _, fun n => by rw [inB_nil]; rfl, trivial, fun y hy => (by cases hy), .inl hab, by omega⟩
/-- a number behind what is gone through, ahead of what comes, is not in the set -/
theorem cov_between {l : List (Int × Int)} (g : Good (-1) l) {q : Nat} {a' n : Int} (lo : ∀ i x, i < q → l[i]? = some x → x.2 ≤ a') (hn : a' ≤ n) (hi : ∀ x, l[q]? = some x → n < x.1) : cov l n = false := by
  cases hc : cov l n with
  | false => rfl
  | true =>
    obtain ⟨x, hx, h1, h2⟩ := cov_iff.1 hc
    obtain ⟨i, hil, rfl⟩ := List.getElem_of_mem hx
    have hgi := List.getElem?_eq_getElem hil
    rcases Nat.lt_or_ge i q with h | h
    · have := lo i _ h hgi; omega
    · have hq := List.getElem?_eq_getElem (show q < l.length by omega)
      have h3 := hi _ hq
      rcases Nat.lt_or_eq_of_le h with h | h
      · have := g.rise h hq hgi
        have := (g.mem _ (List.mem_of_getElem? hq)).2.1
        omega
      · subst h; omega
theorem GapI.next {l : List (Int × Int)} {a b a' : Int} {q : Nat} {out : List (Int × Int)} (h : GapI l a b q a' out) (g : Good (-1) l) (h0 : 0 ≤ a) {x : Int × Int} (hx : l[q]? = some x) (hxb : x.1 < b) (hb : b ≤ 16384) :
    GapI l a b (q + 1) (max a' x.2) (if a' < x.1 then out ++ [(a', x.1)] else out) := by
  obtain ⟨g1, g2, g3⟩ := g.mem x (List.mem_of_getElem? hx)
  have haa := h.aa
  have hin : ∀ n, x.1 ≤ n → n < x.2 → cov l n = true := fun n h1 h2 => cov_iff.2 ⟨x, List.mem_of_getElem? hx, h1, h2⟩
  have hcv : ∀ n, (inB a (max a' x.2) n && !cov l n) = ((inB a a' n && !cov l n) || (decide (a' ≤ n) && decide (n < x.1))) := fun n => by
    by_cases h1 : n < a'
    · have e1 : inB a (max a' x.2) n = inB a a' n := by unfold inB; rw [Bool.eq_iff_iff]; simp; omega
      have e2 : (decide (a' ≤ n) && decide (n < x.1)) = false := by rw [Bool.eq_false_iff]; simp; omega
      rw [e1, e2, Bool.or_false]
    · have e1 : inB a a' n = false := by unfold inB; rw [Bool.eq_false_iff]; simp; omega
      rw [e1, Bool.false_and, Bool.false_or]
      by_cases h2 : n < x.1
      · rw [cov_between g h.lo (by omega) (fun y hy => by rw [hx] at hy; cases hy; exact h2)]
        unfold inB; rw [Bool.eq_iff_iff]; simp; omega
      · by_cases h3 : n < x.2
        · rw [hin n (by omega) h3]; rw [Bool.eq_iff_iff]; simp; omega
        · have e3 : inB a (max a' x.2) n = false := by unfold inB; rw [Bool.eq_false_iff]; simp; omega
          rw [e3, Bool.eq_iff_iff]; simp; omega
  refine ⟨fun i y hi hy => ?_, by omega, fun n => ?_, ?_, fun y hy => ?_, ?_, by have := h.a16; omega⟩
  · rcases Nat.lt_or_eq_of_le (Nat.le_of_lt_succ hi) with hi | rfl
    · have := h.lo i y hi hy; omega
    · rw [hx] at hy; cases hy; omega
  · rw [hcv]
    split
    · rw [cov_append, cov_one, h.cv]
    · rw [h.cv]
      have e2 : (decide (a' ≤ n) && decide (n < x.1)) = false := by rw [Bool.eq_false_iff]; simp; omega
      rw [e2, Bool.or_false]
  · split
    · exact good_snoc.2 ⟨h.gd, h.en, by show -1 < a'; omega, by assumption, by show x.1 ≤ 16384; omega⟩
    · exact h.gd
  · split at hy
    · rcases List.mem_append.1 hy with hy | hy
      · have := h.en y hy; omega
      · rw [List.mem_singleton] at hy; subst hy; show x.1 < _; omega
    · have := h.en y hy; omega
  · right
    intro n h1 h2
    by_cases h3 : n < x.2
    · exact hin n (by omega) h3
    · rcases h.top with h4 | h4
      · omega
      · exact h4 n h1 (by omega)
theorem GapI.done {l : List (Int × Int)} {a b a' : Int} {q : Nat} {out : List (Int × Int)} (h : GapI l a b q a' out) (g : Good (-1) l) (h0 : 0 ≤ a) (hb : b ≤ 16384) (hq : ∀ x, l[q]? = some x → b ≤ x.1) :
    Good (-1) (if a' < b then out ++ [(a', b)] else out) ∧ ∀ n, cov (if a' < b then out ++ [(a', b)] else out) n = (inB a b n && !cov l n) := by
  have haa := h.aa
  split
  · refine ⟨good_snoc.2 ⟨h.gd, h.en, by show -1 < a'; omega, by assumption, hb⟩, fun n => ?_⟩
    rw [cov_append, cov_one, h.cv]
    by_cases h1 : n < a'
    · have e1 : inB a b n = inB a a' n := by unfold inB; rw [Bool.eq_iff_iff]; simp; omega
      have e2 : (decide (a' ≤ n) && decide (n < b)) = false := by rw [Bool.eq_false_iff]; simp; omega
      rw [e1]; show ((inB a a' n && !cov l n) || (decide (a' ≤ n) && decide (n < b))) = _; rw [e2, Bool.or_false]
    · have e1 : inB a a' n = false := by unfold inB; rw [Bool.eq_false_iff]; simp; omega
      rw [e1]
      show (_ || (decide (a' ≤ n) && decide (n < b))) = _
      by_cases h2 : n < b
      · rw [cov_between g h.lo (by omega) (fun y hy => by have := hq y hy; omega)]
        unfold inB; rw [Bool.eq_iff_iff]; simp; omega
      · unfold inB; rw [Bool.eq_iff_iff]; simp; omega
  · refine ⟨h.gd, fun n => ?_⟩
    rw [h.cv]
    by_cases h1 : n < b
    · have e1 : inB a b n = inB a a' n := by unfold inB; rw [Bool.eq_iff_iff]; simp; omega
      rw [e1]
    · have e1 : inB a b n = false := by unfold inB; rw [Bool.eq_false_iff]; simp; omega
      rw [e1]
      by_cases h2 : n < a'
      · rcases h.top with h4 | h4
        · omega
        · rw [h4 n (by omega) h2]; simp
      · have e2 : inB a a' n = false := by unfold inB; rw [Bool.eq_false_iff]; simp; omega
        rw [e2]
end Go.Proofs.Ytddoefkojlghnaa
