/- stripe: a layer's blocks, one by one (plain). -/
import Derived.Test.YtoofhjhnfeamgaaStripeUpto
namespace Go.Proofs.Ytoofhjhnfeamgaa
open Go.RowKit
set_option linter.unusedVariables false
set_option linter.unusedSimpArgs false

/-- a layer's blocks, of the first f -/
def preL (n : Nat) (m : Int) (f : Nat) : List Nat := (List.range f).filter fun j => decide ((lyr n j : Int) = m)
theorem preL_skip {n : Nat} {m : Int} {f i : Nat} (hfi : f ≤ i) (h : ∀ j, f ≤ j → j < i → (lyr n j : Int) ≠ m) : preL n m i = preL n m f := by
  obtain ⟨d, rfl⟩ : ∃ d, i = f + d := ⟨i - f, by omega⟩
  clear hfi
  induction d with
  | zero => rfl
  | succ d ih =>
    have ih := ih (fun j h1 h2 => h j h1 (by omega))
    rw [← ih]
    unfold preL
    rw [← Nat.add_assoc, List.range_succ, List.filter_append]
    have hne := h (f + d) (by omega) (by omega)
    simp [hne]
theorem preL_take {n : Nat} {m : Int} {i : Nat} (h : (lyr n i : Int) = m) : preL n m (i + 1) = preL n m i ++ [i] := by
  unfold preL
  rw [List.range_succ, List.filter_append]
  simp [h]
theorem preL_prefix {n : Nat} {m : Int} {f z : Nat} (h : f ≤ z) : preL n m f <+: preL n m z := by
  obtain ⟨d, rfl⟩ : ∃ d, z = f + d := ⟨z - f, by omega⟩
  clear h
  induction d with
  | zero => exact List.prefix_refl _
  | succ d ih =>
    refine ih.trans ?_
    unfold preL
    rw [← Nat.add_assoc, List.range_succ, List.filter_append]
    exact List.prefix_append _ _
theorem mem_preL {n : Nat} {m : Int} {z j : Nat} : j ∈ preL n m z ↔ j < z ∧ (lyr n j : Int) = m := by
  unfold preL; simp [List.mem_filter]
theorem preL_sorted (n : Nat) (m : Int) (z : Nat) : (preL n m z).Pairwise (· < ·) := List.Pairwise.filter _ List.pairwise_lt_range
/-- the last one that came; -1: none -/
def lastI (pre : List Nat) : Int := match pre.getLast? with | none => -1 | some p => p
theorem lastI_snoc (pre : List Nat) (x : Nat) : lastI (pre ++ [x]) = x := by unfold lastI; simp
theorem lastI_ge (pre : List Nat) : -1 ≤ lastI pre := by unfold lastI; split <;> omega
theorem above_last {pre : List Nat} (h : pre.Pairwise (· < ·)) {z : Nat} (hz : lastI pre < z) : ∀ p ∈ pre, p < z := fun p hp => by
  rcases List.eq_nil_or_concat pre with rfl | ⟨q, y, rfl⟩
  · cases hp
  · rw [List.concat_eq_append] at h hz hp
    rw [lastI_snoc] at hz
    rw [List.pairwise_append] at h
    rcases List.mem_append.1 hp with hp | hp
    · have := h.2.2 p hp y (by simp); omega
    · rw [List.mem_singleton] at hp; omega
/-- the next one that comes -/
theorem next_lyr {n : Nat} {m : Int} {z : Nat} {pre : List Nat} (hp : pre <+: preL n m z) (hl : pre.length < (preL n m z).length) :
    ∃ y, y < z ∧ pre ++ [y] <+: preL n m z ∧ (lyr n y : Int) = m ∧ lastI pre < y ∧ (∀ j : Nat, lastI pre < j → j < y → (lyr n j : Int) ≠ m) ∧ ∀ x, pre ++ [x] <+: preL n m z → x = y := by
  obtain ⟨rest, hr⟩ := hp
  have hs := preL_sorted n m z
  rw [← hr, List.pairwise_append] at hs
  cases rest with
  | nil => rw [← hr] at hl; simp at hl
  | cons y ys =>
    have hy := mem_preL.1 (show y ∈ preL n m z by rw [← hr]; simp)
    refine ⟨y, hy.1, ⟨ys, by rw [← hr]; simp⟩, hy.2, ?_, fun j h1 h2 h3 => ?_, fun x hx => ?_⟩
    · rcases List.eq_nil_or_concat pre with rfl | ⟨q, p, rfl⟩
      · show (-1 : Int) < y; omega
      · rw [List.concat_eq_append] at hs ⊢
        rw [lastI_snoc]
        have := hs.2.2 p (by simp) y (by simp)
        omega
    · have hm := mem_preL.2 ⟨show j < z by omega, h3⟩
      rw [← hr] at hm
      rcases List.mem_append.1 hm with hm | hm
      · have := above_last hs.1 h1 j hm; omega
      · rcases List.mem_cons.1 hm with rfl | hm
        · omega
        · have := (List.pairwise_cons.1 hs.2.1).1 j hm; omega
    · obtain ⟨r2, hr2⟩ := hx
      rw [← hr, List.append_assoc] at hr2
      have := List.append_cancel_left hr2
      simp at this
      exact this.1
/-- behind the last one there is none -/
theorem none_behind {n : Nat} {m : Int} {z : Nat} {j : Nat} (h1 : lastI (preL n m z) < j) (h2 : j < z) : (lyr n j : Int) ≠ m := fun h3 => by
  have := above_last (preL_sorted n m z) h1 j (mem_preL.2 ⟨h2, h3⟩)
  omega
theorem preL_len (n : Nat) (m : Int) (z : Nat) : (preL n m z).length ≤ z := by
  unfold preL
  have := List.length_filter_le (fun j => decide ((lyr n j : Int) = m)) (List.range z)
  rwa [List.length_range] at this
end Go.Proofs.Ytoofhjhnfeamgaa
