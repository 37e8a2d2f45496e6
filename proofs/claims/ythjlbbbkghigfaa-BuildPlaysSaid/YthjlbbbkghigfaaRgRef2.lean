/- ranges: the law's reference: Stretches over a list of truths. -/
import Derived.Test.YthjlbbbkghigfaaRgRef
import Derived.Test.YthjlbbbkghigfaaRgPlain3
import Derived.Test.YthjlbbbkghigfaaRanges2
import Derived.Test.YthjlbbbkghigfaaRanges4
namespace Go.Proofs.Ythjlbbbkghigfaa
open Go.RowKit
set_option linter.unusedVariables false
set_option linter.unusedSimpArgs false

theorem good_snoc {x : Int × Int} : ∀ {S : List (Int × Int)} {lo : Int}, Good lo (S ++ [x]) ↔ Good lo S ∧ (∀ y ∈ S, y.2 < x.1) ∧ lo < x.1 ∧ x.1 < x.2 ∧ x.2 ≤ 16384
  | [], lo => by simp [Good]
  | y :: r, lo => by
    have ih := good_snoc (x := x) (S := r) (lo := y.2)
    show (lo < y.1 ∧ y.1 < y.2 ∧ y.2 ≤ 16384 ∧ Good y.2 (r ++ [x])) ↔ _
    rw [ih]
    constructor
    · rintro ⟨h1, h2, h3, h4, h5, h6, h7, h8⟩
      refine ⟨⟨h1, h2, h3, h4⟩, fun z hz => ?_, by omega, h7, h8⟩
      rcases List.mem_cons.1 hz with rfl | hz
      · exact h6
      · exact h5 z hz
    · rintro ⟨⟨h1, h2, h3, h4⟩, h5, h6, h7, h8⟩
      exact ⟨h1, h2, h3, h4, fun z hz => h5 z (by simp [hz]), h5 y (by simp), h7, h8⟩
theorem inB_next {a i n : Int} (h : a ≤ i) : inB a (i + 1) n = (inB a i n || decide (n = i)) := by
  unfold inB
  rw [Bool.eq_iff_iff]; simp; omega
theorem inB_self {a i : Int} : inB a i i = false := by unfold inB; simp
/-- the reference's loop -/
def StrI (f : Int → Bool) (vb : Bool) (a i : Int) (S : List (Int × Int)) : Prop := Good (-1) S ∧ ∀ n, cov S n = (inB a i n && (f n == vb))
theorem StrI.start (f : Int → Bool) (vb : Bool) (a : Int) : StrI f vb a a [] := ⟨trivial, fun n => by
  have : inB a a n = false := by unfold inB; rw [Bool.eq_false_iff]; simp
  rw [this]; rfl⟩
theorem StrI.skip {f : Int → Bool} {vb : Bool} {a i : Int} {S : List (Int × Int)} (h : StrI f vb a i S) (hi : a ≤ i) (hf : (f i == vb) = false) : StrI f vb a (i + 1) S := ⟨h.1, fun n => by
  rw [h.2, inB_next hi]
  by_cases e : n = i
  · subst e; rw [hf]; simp
  · simp [e]⟩
theorem StrI.end_le {f : Int → Bool} {vb : Bool} {a i : Int} {S : List (Int × Int)} (h : StrI f vb a i S) {x : Int × Int} (hx : x ∈ S) : x.2 ≤ i := by
  obtain ⟨g1, g2, g3⟩ := h.1.mem x hx
  have hc : cov S (x.2 - 1) = true := cov_iff.2 ⟨x, hx, by omega, by omega⟩
  rw [h.2] at hc
  simp [inB] at hc
  omega
theorem StrI.on {f : Int → Bool} {vb : Bool} {a i : Int} {S : List (Int × Int)} {x : Int × Int} (h : StrI f vb a i (S ++ [x])) (hi : a ≤ i) (h0 : i < 16384) (hf : (f i == vb) = true) (hx : x.2 = i) : StrI f vb a (i + 1) (S ++ [(x.1, i + 1)]) := by
  obtain ⟨g1, g2, g3, g4, g5⟩ := good_snoc.1 h.1
  refine ⟨good_snoc.2 ⟨g1, g2, g3, by show x.1 < i + 1; omega, by show i + 1 ≤ 16384; omega⟩, fun n => ?_⟩
  have hc := h.2 n
  rw [cov_append, cov_one] at hc ⊢
  rw [inB_next hi]
  by_cases e : n = i
  · subst e
    rw [hf]
    have h1 : (decide (x.1 ≤ n) && decide (n < n + 1)) = true := by simp; omega
    show (cov S n || (decide (x.1 ≤ n) && decide (n < n + 1))) = _
    rw [h1]; simp
  · have h1 : (decide (x.1 ≤ n) && decide (n < i + 1)) = (decide (x.1 ≤ n) && decide (n < x.2)) := by
      rw [Bool.eq_iff_iff]; simp; omega
    show (cov S n || (decide (x.1 ≤ n) && decide (n < i + 1))) = _
    rw [h1, hc]; simp [e]
theorem StrI.new {f : Int → Bool} {vb : Bool} {a i : Int} {S : List (Int × Int)} (h : StrI f vb a i S) (h00 : 0 ≤ i) (hi : a ≤ i) (h0 : i < 16384) (hf : (f i == vb) = true) (hx : ∀ x ∈ S, x.2 ≠ i) : StrI f vb a (i + 1) (S ++ [(i, i + 1)]) := by
  refine ⟨good_snoc.2 ⟨h.1, fun y hy => ?_, by show -1 < i; omega, by show i < i + 1; omega, by show i + 1 ≤ 16384; omega⟩, fun n => ?_⟩
  · have := h.end_le hy
    have := hx y hy
    show y.2 < i
    omega
  · have hc := h.2 n
    rw [cov_append, cov_one, hc, inB_next hi]
    by_cases e : n = i
    · subst e; rw [hf]; simp; omega
    · have h1 : (decide (i ≤ n) && decide (n < i + 1)) = false := by rw [Bool.eq_false_iff]; simp; omega
      show ((inB a i n && (f n == vb)) || (decide (i ≤ n) && decide (n < i + 1))) = _
      rw [h1]; simp [e]
/-- only the last one may end there -/
theorem StrI.last {f : Int → Bool} {vb : Bool} {a i : Int} {S : List (Int × Int)} {x : Int × Int} (h : StrI f vb a i (S ++ [x])) (hx : x.2 ≠ i) : ∀ y ∈ S ++ [x], y.2 ≠ i := fun y hy e => by
  rcases List.mem_append.1 hy with hy | hy
  · obtain ⟨g1, g2, g3, g4, g5⟩ := good_snoc.1 h.1
    have := g2 y hy
    have := h.end_le (x := x) (by simp)
    omega
  · rw [List.mem_singleton] at hy; subst hy; exact hx e
end Go.Proofs.Ythjlbbbkghigfaa
