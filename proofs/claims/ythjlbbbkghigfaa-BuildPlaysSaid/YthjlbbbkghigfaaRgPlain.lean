/- ranges: stretches: the plain law. -/
import Derived.Test.YthjlbbbkghigfaaPairRep
namespace Go.Proofs.Ythjlbbbkghigfaa
open Go.RowKit
set_option linter.unusedVariables false
set_option linter.unusedSimpArgs false

/-- stretches: rising, of which no two touch, none empty, from lo on -/
def Good (lo : Int) : List (Int × Int) → Prop
  | [] => True
  | x :: r => lo < x.1 ∧ x.1 < x.2 ∧ x.2 ≤ 16384 ∧ Good x.2 r
theorem Good.mono {lo lo' : Int} (h : lo' ≤ lo) : ∀ {l : List (Int × Int)}, Good lo l → Good lo' l
  | [], _ => trivial
  | x :: r, g => ⟨by have := g.1; omega, g.2⟩
theorem Good.mem {lo : Int} : ∀ {l : List (Int × Int)}, Good lo l → ∀ x ∈ l, lo < x.1 ∧ x.1 < x.2 ∧ x.2 ≤ 16384
  | [], _, x, h => by simp at h
  | y :: r, g, x, h => by
    rcases List.mem_cons.1 h with rfl | h
    · exact ⟨g.1, g.2.1, g.2.2.1⟩
    · have := Good.mem g.2.2.2 x h
      exact ⟨by have := g.1; have := g.2.1; omega, this.2⟩
theorem Good.tail {lo : Int} : ∀ {l : List (Int × Int)} {k : Nat} {x : Int × Int}, Good lo l → l[k]? = some x → Good x.2 (l.drop (k + 1))
  | [], k, x, _, h => by simp at h
  | y :: r, 0, x, g, h => by simp at h; subst h; exact g.2.2.2
  | y :: r, k + 1, x, g, h => Good.tail (l := r) g.2.2.2 (by simpa using h)
theorem Good.rise {lo : Int} {l : List (Int × Int)} (g : Good lo l) {i j : Nat} {x y : Int × Int} (hij : i < j) (hx : l[i]? = some x) (hy : l[j]? = some y) : x.2 < y.1 := by
  have h := g.tail hx
  have hm : y ∈ l.drop (i + 1) := by
    refine List.mem_of_getElem? (i := j - (i + 1)) ?_
    rw [List.getElem?_drop, show i + 1 + (j - (i + 1)) = j by omega]
    exact hy
  exact (h.mem y hm).1


/-- p parts the stretches: those ahead end below n, the others do not -/
structure Parts (l : List (Int × Int)) (n : Int) (p : Nat) : Prop where
  lo : ∀ q x, q < p → l[q]? = some x → x.2 < n
  hi : ∀ q x, p ≤ q → l[q]? = some x → n ≤ x.2
/-- is a number in it? -/
def cov (l : List (Int × Int)) (n : Int) : Bool := l.any fun x => decide (x.1 ≤ n) && decide (n < x.2)
theorem cov_iff {l : List (Int × Int)} {n : Int} : cov l n = true ↔ ∃ x ∈ l, x.1 ≤ n ∧ n < x.2 := by unfold cov; simp
theorem cov_append {l r : List (Int × Int)} {n : Int} : cov (l ++ r) n = (cov l n || cov r n) := by unfold cov; simp
theorem cov_cons {x : Int × Int} {l : List (Int × Int)} {n : Int} : cov (x :: l) n = (decide (x.1 ≤ n) && decide (n < x.2) || cov l n) := by unfold cov; simp
/-- how many -/
def tot (l : List (Int × Int)) : Int := (l.map fun x => x.2 - x.1).sum
theorem tot_nil : tot [] = 0 := rfl
theorem tot_cons (x : Int × Int) (l : List (Int × Int)) : tot (x :: l) = x.2 - x.1 + tot l := by unfold tot; simp
theorem tot_append (l r : List (Int × Int)) : tot (l ++ r) = tot l + tot r := by
  induction l with
  | nil => simp [tot]
  | cons x l ih => rw [List.cons_append, tot_cons, tot_cons, ih]; omega
theorem Good.tot {lo : Int} : ∀ {l : List (Int × Int)}, Good lo l → 0 ≤ tot l ∧ (l = [] ∨ tot l ≤ 16384 - lo - 1)
  | [], _ => ⟨Int.le_refl _, .inl rfl⟩
  | x :: r, g => by
    obtain ⟨h1, h2, h3, h4⟩ := g
    obtain ⟨i1, i2⟩ := Good.tot h4
    rw [tot_cons]
    refine ⟨by omega, .inr ?_⟩
    rcases i2 with rfl | i2
    · rw [tot_nil]; omega
    · omega
theorem Good.append {lo : Int} : ∀ {l r : List (Int × Int)}, Good lo l → (∀ x ∈ l, ∀ y ∈ r, x.2 < y.1) → Good lo r → Good lo (l ++ r)
  | [], r, _, _, h => h
  | x :: l, r, g, hx, h => by
    obtain ⟨h1, h2, h3, h4⟩ := g
    refine ⟨h1, h2, h3, Good.append h4 (fun y hy z hz => hx y (by simp [hy]) z hz) ?_⟩
    cases r with
    | nil => trivial
    | cons y r => exact ⟨hx x (by simp) y (by simp), h.2⟩
theorem Good.take {lo : Int} : ∀ {l : List (Int × Int)}, Good lo l → ∀ k, Good lo (l.take k)
  | [], _, k => by simp [Good]
  | x :: l, g, 0 => trivial
  | x :: l, g, k + 1 => ⟨g.1, g.2.1, g.2.2.1, Good.take g.2.2.2 k⟩
theorem Good.drop {lo : Int} : ∀ {l : List (Int × Int)}, Good lo l → ∀ k, Good lo (l.drop k)
  | [], _, k => by simp [Good]
  | x :: l, g, 0 => g
  | x :: l, g, k + 1 => Good.drop (g.2.2.2.mono (by have := g.1; have := g.2.1; omega)) k
theorem good_one {lo a b : Int} (h1 : lo < a) (h2 : a < b) (h3 : b ≤ 16384) : Good lo [(a, b)] := ⟨h1, h2, h3, trivial⟩

/-- counting -/
def cnt (n : Nat) (P : Int → Bool) : Nat := (List.range n).countP fun i : Nat => P (i : Int)
theorem cnt_succ (n : Nat) (P : Int → Bool) : cnt (n + 1) P = cnt n P + (if P n then 1 else 0) := by
  unfold cnt
  rw [List.range_succ, List.countP_append]
  simp [List.countP_cons]
theorem cnt_zero (P : Int → Bool) : cnt 0 P = 0 := rfl
theorem cnt_congr {n : Nat} {P Q : Int → Bool} (h : ∀ i : Nat, i < n → P i = Q i) : cnt n P = cnt n Q := by
  induction n with
  | zero => rfl
  | succ n ih => rw [cnt_succ, cnt_succ, ih (fun i hi => h i (by omega)), h n (by omega)]
theorem cnt_or {n : Nat} {P Q : Int → Bool} (h : ∀ i : Nat, i < n → P i = true → Q i = false) : cnt n (fun i => P i || Q i) = cnt n P + cnt n Q := by
  induction n with
  | zero => rfl
  | succ n ih =>
    rw [cnt_succ, cnt_succ, cnt_succ, ih (fun i hi => h i (by omega))]
    have := h n (by omega)
    cases hp : P n <;> cases hq : Q n <;> simp_all <;> omega
theorem cnt_int (n : Nat) (a b : Int) (h0 : 0 ≤ a) (h1 : a ≤ b) : (cnt n (fun i => decide (a ≤ i) && decide (i < b)) : Int) = min b n - min a n := by
  induction n with
  | zero => rw [cnt_zero]; omega
  | succ n ih =>
    rw [cnt_succ]
    by_cases c1 : a ≤ n
    · by_cases c2 : (n : Int) < b
      · rw [if_pos (by simp [c1, c2])]; omega
      · rw [if_neg (by simp [c2])]; omega
    · rw [if_neg (by simp [c1])]; omega
theorem Good.lo_cov {lo : Int} {l : List (Int × Int)} (g : Good lo l) {n : Int} (h : cov l n = true) : lo < n ∧ n < 16384 := by
  obtain ⟨x, hx, h1, h2⟩ := cov_iff.1 h
  have := g.mem x hx
  omega
theorem tot_cnt {lo : Int} : ∀ {l : List (Int × Int)}, Good lo l → -1 ≤ lo → tot l = cnt 16384 (cov l)
  | [], _, _ => by
    rw [tot_nil]
    have : cnt 16384 (cov []) = cnt 16384 (fun _ => false) := cnt_congr (fun i _ => rfl)
    rw [this]
    unfold cnt
    simp
  | x :: r, g, hl => by
    obtain ⟨h1, h2, h3, h4⟩ := g
    have ih := tot_cnt h4 (by omega)
    have e : cnt 16384 (cov (x :: r)) = cnt 16384 (fun i => (decide (x.1 ≤ i) && decide (i < x.2)) || cov r i) := cnt_congr (fun i _ => cov_cons)
    rw [tot_cons, ih, e, cnt_or (fun i _ hp => ?_)]
    · have := cnt_int 16384 x.1 x.2 (by omega) (by omega)
      omega
    · cases hq : cov r i with
      | false => rfl
      | true =>
        have := (h4.lo_cov hq).1
        simp at hp
        omega
end Go.Proofs.Ythjlbbbkghigfaa
