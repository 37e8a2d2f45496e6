/- stripe: shares: the plain law. -/
import Derived.Test.YtoofhjhnfeamgaaStripe3
namespace Go.Proofs.Ytoofhjhnfeamgaa
open Go.RowKit
set_option linter.unusedVariables false
set_option linter.unusedSimpArgs false

/-- how many of N blocks from a on lie in layer j -/
def winC (n a : Nat) : Nat → Nat → Nat
  | 0, _ => 0
  | N + 1, j => winC n a N j + (if lyr n (a + N) = j then 1 else 0)
theorem winC_front (n a j : Nat) : ∀ N, winC n a (N + 1) j = (if lyr n a = j then 1 else 0) + winC n (a + 1) N j
  | 0 => by simp [winC]
  | N + 1 => by
    have ih := winC_front n a j N
    rw [show winC n a (N + 1 + 1) j = winC n a (N + 1) j + (if lyr n (a + (N + 1)) = j then 1 else 0) from rfl, ih, show winC n (a + 1) (N + 1) j = winC n (a + 1) N j + (if lyr n (a + 1 + N) = j then 1 else 0) from rfl, show a + 1 + N = a + (N + 1) by omega]
    omega
theorem lyr_period (n a : Nat) : lyr n (a + 2 ^ (n - 1)) = lyr n a := by
  unfold lyr
  rw [Nat.add_mod_right]
theorem winC_shift (n j : Nat) : ∀ a, winC n a (2 ^ (n - 1)) j = winC n 0 (2 ^ (n - 1)) j
  | 0 => rfl
  | a + 1 => by
    rw [← winC_shift n j a]
    have h1 := winC_front n a j (2 ^ (n - 1))
    have h2 : winC n a (2 ^ (n - 1) + 1) j = winC n a (2 ^ (n - 1)) j + (if lyr n (a + 2 ^ (n - 1)) = j then 1 else 0) := rfl
    rw [h2, lyr_period] at h1
    omega
/-- a layer's share -/
def shr (j : Nat) : Nat := if j = 0 then 1 else 2 ^ (j - 1)
theorem winC_zero : ∀ n, n < 9 → 1 ≤ n → ∀ j, j < n → winC n 0 (2 ^ (n - 1)) j = shr j := by decide +kernel
theorem winC_share {n a j : Nat} (h1 : 1 ≤ n) (h2 : n ≤ 8) (hj : j < n) : winC n a (2 ^ (n - 1)) j = shr j := by
  rw [winC_shift, winC_zero n (by omega) h1 j hj]
theorem lyr_in {n i : Nat} (h1 : 1 ≤ n) (h2 : n ≤ 8) : lyr n i < n := by
  have hm : i % 2 ^ (n - 1) < 2 ^ (n - 1) := Nat.mod_lt _ (Nat.pow_pos (by omega))
  have key : ∀ n, n < 9 → 1 ≤ n → ∀ x, x < 2 ^ (n - 1) → bl x < n := by decide +kernel
  exact key n (by omega) h1 _ hm
end Go.Proofs.Ytoofhjhnfeamgaa
