/- marks: in as many ticks as the period each layer's marker is due once (plain). -/
import Derived.Test.YtmiholjmagobhaaMarksDue
namespace Go.Proofs.Ytmiholjmagobhaa
open Go.RowKit
set_option linter.unusedVariables false
set_option linter.unusedSimpArgs false

theorem dueL_prefix (t p : Int) {q n : Nat} (h : q ≤ n) : ∃ r, dueL t p n = dueL t p q ++ r := by
  induction n with
  | zero => exact ⟨[], by rw [show q = 0 by omega]; simp⟩
  | succ n ih =>
    by_cases e : q = n + 1
    · subst e; exact ⟨[], by simp⟩
    · obtain ⟨r, hr⟩ := ih (by omega)
      cases hd : dueB t p n with
      | true => exact ⟨r ++ [(n : Int)], by rw [dueL_yes hd, hr, List.append_assoc]⟩
      | false => exact ⟨r, by rw [dueL_no hd, hr]⟩
theorem dueL_at {t p : Int} {q n : Nat} (h : q < n) (hd : dueB t p q = true) : (dueL t p n)[(dueL t p q).length]? = some (q : Int) := by
  obtain ⟨r, hr⟩ := dueL_prefix t p (q := q + 1) (n := n) (by omega)
  rw [hr, dueL_yes hd, List.append_assoc]
  simp
theorem dueL_mem {t p : Int} {n j : Nat} {x : Int} (h : (dueL t p n)[j]? = some x) : ∃ q : Nat, q < n ∧ x = q ∧ dueB t p q = true := by
  have := List.mem_of_getElem? h
  simp only [dueL, List.mem_map, List.mem_filter, List.mem_range] at this
  obtain ⟨q, ⟨h1, h2⟩, h3⟩ := this
  exact ⟨q, h1, h3.symm, h2⟩
theorem dueL_count (t p : Int) (n q : Nat) : (dueL t p n).count (q : Int) = if q < n ∧ dueB t p q = true then 1 else 0 := by
  induction n with
  | zero => simp [dueL]
  | succ n ih =>
    cases hd : dueB t p n with
    | true =>
      rw [dueL_yes hd, List.count_append, ih]
      by_cases e : n = q
      · subst e; simp [hd]
      · have : ((n : Int) == (q : Int)) = false := by rw [beq_eq_false_iff_ne]; omega
        rw [List.count_singleton, this]
        by_cases h : q < n
        · simp [h, show q < n + 1 by omega]
        · simp [h, show ¬ q < n + 1 by omega]
    | false =>
      rw [dueL_no hd, ih]
      by_cases e : n = q
      · subst e; simp [hd]
      · by_cases h : q < n
        · simp [h, show q < n + 1 by omega]
        · simp [h, show ¬ q < n + 1 by omega]

/-- how often a layer was due in the first s ticks -/
def cnt (t p : Int) (s n : Nat) : Nat := ((List.range s).filter (fun i : Nat => dueB (t + 8 + (i : Int)) p n)).length
theorem cnt_succ (t p : Int) (s n : Nat) : cnt t p (s + 1) n = cnt t p s n + if dueB (t + 8 + (s : Int)) p n = true then 1 else 0 := by
  unfold cnt
  rw [List.range_succ, List.filter_append, List.length_append]
  congr 1
  cases hd : dueB (t + 8 + (s : Int)) p n <;> simp [hd]
theorem emod_two {x p : Int} (h0 : 0 ≤ x) (h1 : x < 2 * p) : x % p = if x < p then x else x - p := by
  by_cases h : x < p
  · rw [if_pos h, Int.emod_eq_of_lt h0 h]
  · rw [if_neg h]
    have : x % p = (x - p) % p := by rw [Int.sub_emod_right]
    rw [this, Int.emod_eq_of_lt (by omega) (by omega)]
theorem cnt_le (a p : Int) (n : Nat) (hp : 1 ≤ p) (h0 : 0 ≤ a) (hn : n < 8) : ∀ s : Nat, (s : Int) ≤ p →
    cnt a p s n = if (s : Int) ≤ (p - (a + 8 - n) % p) % p then 0 else 1 := by
  have hr0 : 0 ≤ (a + 8 - n) % p := Int.emod_nonneg _ (by omega)
  have hr1 : (a + 8 - n) % p < p := Int.emod_lt_of_pos _ (by omega)
  have hk : ∀ s : Nat, (a + 8 + (s : Int) - n) % p = ((a + 8 - n) % p + s) % p := by
    intro s
    rw [Int.emod_add_emod]
    congr 1
    omega
  intro s
  induction s with
  | zero =>
    intro _
    have := Int.emod_nonneg (p - (a + 8 - n) % p) (show p ≠ 0 by omega)
    rw [if_pos (by simpa using this)]
    rfl
  | succ s ih =>
    intro hs
    rw [cnt_succ, ih (by omega)]
    have hd : dueB (a + 8 + (s : Int)) p n = decide (((a + 8 - n) % p + (s : Int)) % p = 0) := by
      unfold dueB
      rw [hk s, decide_eq_true (by omega)]
      simp
    rw [hd]
    generalize (a + 8 - n) % p = r at *
    have e1 := emod_two (x := r + s) (p := p) (by omega) (by omega)
    have e2 := emod_two (x := p - r) (p := p) (by omega) (by omega)
    have f1 : r + (s : Int) < p → (r + (s : Int)) % p = r + s := fun h => by rw [e1, if_pos h]
    have f2 : p ≤ r + (s : Int) → (r + (s : Int)) % p = r + s - p := fun h => by rw [e1, if_neg (by omega)]
    have f3 : r = 0 → (p - r) % p = 0 := fun h => by rw [e2, if_neg (by omega)]; omega
    have f4 : 0 < r → (p - r) % p = p - r := fun h => by rw [e2, if_pos (by omega)]
    clear e1 e2 hk hd
    generalize (r + (s : Int)) % p = z at *
    generalize (p - r) % p = s0 at *
    simp only [decide_eq_true_eq]
    by_cases hr : r = 0
    · have := f3 hr
      by_cases c1 : r + (s : Int) < p
      · have := f1 c1
        split <;> split <;> split <;> omega
      · have := f2 (by omega)
        split <;> split <;> split <;> omega
    · have := f4 (by omega)
      by_cases c1 : r + (s : Int) < p
      · have := f1 c1
        split <;> split <;> split <;> omega
      · have := f2 (by omega)
        split <;> split <;> split <;> omega
theorem cnt_one (a p : Int) (n : Nat) (hp : 1 ≤ p) (h0 : 0 ≤ a) (hn : n < 8) : cnt a p p.toNat n = 1 := by
  rw [cnt_le a p n hp h0 hn p.toNat (by omega), if_neg]
  have := Int.emod_lt_of_pos (p - (a + 8 - n) % p) (show 0 < p by omega)
  omega

theorem take_count (l : List Int) (j : Nat) (x y : Int) (h : l[j]? = some x) : (l.take (j + 1)).count y = (l.take j).count y + if x = y then 1 else 0 := by
  rw [List.take_add_one, h, List.count_append]
  congr 1
  simp [List.count_singleton]
end Go.Proofs.Ytmiholjmagobhaa
