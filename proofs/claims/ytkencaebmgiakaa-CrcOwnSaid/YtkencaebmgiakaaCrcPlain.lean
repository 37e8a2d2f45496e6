/- The plain law of the sums: no program in sight. -/
import Derived.Test.YtkencaebmgiakaaMem
import Derived.Laws.BitsAllLaws
namespace Go.Proofs.Ytkencaebmgiakaa
set_option linter.unusedVariables false
set_option linter.unusedSimpArgs false

def cpoly : Nat := 3988292384
def cstp (x : Nat) : Nat := if x % 2 = 0 then x / 2 else (x / 2) ^^^ cpoly
def cits : Nat → Nat → Nat
  | 0, x => x
  | n + 1, x => cstp (cits n x)
def cmore1 (x c : Nat) : Nat := (x / 256) ^^^ cits 8 ((x % 256) ^^^ c)
def creg (x : Nat) (b : List Nat) : Nat := b.foldl cmore1 x
def cmore (s : Nat) (b : List Nat) : Nat := 4294967295 - creg (4294967295 - s) b
def csum (b : List Nat) : Nat := cmore 0 b
def cbit (x c k : Nat) : Nat := if x % 2 = c / 2 ^ k % 2 then x / 2 else (x / 2) ^^^ cpoly
def cbits (x c : Nat) : Nat → Nat
  | 0 => x
  | k + 1 => cbit (cbits x c k) c k
def cbytes (x : Nat) : List Nat := [x % 256, x / 256 % 256, x / 65536 % 256, x / 16777216 % 256]
def cseal (b : List Nat) : List Nat := b ++ cbytes (csum b)

theorem cits_succ (n x : Nat) : cits (n + 1) x = cits n (cstp x) := by
  induction n generalizing x with
  | zero => rfl
  | succ n ih => show cstp (cits (n + 1) x) = cstp (cits n (cstp x)); rw [ih]
theorem xor_half (a b : Nat) : (a ^^^ b) / 2 = (a / 2) ^^^ (b / 2) := by
  apply Nat.eq_of_testBit_eq; intro i
  simp only [Nat.testBit_div_two, Nat.testBit_xor]
theorem xor_even (a b : Nat) : (a ^^^ b) % 2 = 0 ↔ a % 2 = b % 2 := by
  have h := Nat.testBit_xor a b 0
  simp only [Nat.testBit_zero] at h
  rcases Nat.mod_two_eq_zero_or_one a with ha | ha <;> rcases Nat.mod_two_eq_zero_or_one b with hb | hb <;> rcases Nat.mod_two_eq_zero_or_one (a ^^^ b) with hc | hc <;> simp_all
theorem cbits_cits (x c : Nat) : ∀ k, cbits x c k ^^^ (c / 2 ^ k) = cits k (x ^^^ c)
  | 0 => by simp [cbits, cits]
  | k + 1 => by
    have ih := cbits_cits x c k
    show cbit (cbits x c k) c k ^^^ _ = cstp (cits k (x ^^^ c))
    rw [← ih, Nat.pow_succ, ← Nat.div_div_eq_div_mul]
    generalize cbits x c k = y
    unfold cbit cstp
    generalize hd : c / 2 ^ k = d
    by_cases h : y % 2 = d % 2
    · rw [if_pos h, if_pos ((xor_even y d).2 h), xor_half]
    · rw [if_neg h, if_neg (fun e => h ((xor_even y d).1 e)), xor_half, Nat.xor_assoc, Nat.xor_comm cpoly, ← Nat.xor_assoc]
theorem cits_high : ∀ (k y h : Nat), cits k (y ^^^ 2 ^ k * h) = cits k y ^^^ h
  | 0, y, h => by simp [cits]
  | k + 1, y, h => by
    have e1 : (2 ^ (k + 1) * h) % 2 = 0 := by rw [Nat.pow_succ, Nat.mul_right_comm]; exact Nat.mul_mod_left _ _
    have e2 : (2 ^ (k + 1) * h) / 2 = 2 ^ k * h := by rw [Nat.pow_succ, Nat.mul_right_comm]; exact Nat.mul_div_cancel _ (by decide)
    rw [cits_succ, cits_succ, ← cits_high k (cstp y) h]
    congr 1
    unfold cstp
    rw [xor_half, e2]
    by_cases hy : y % 2 = 0
    · rw [if_pos hy, if_pos ((xor_even _ _).2 (by omega))]
    · rw [if_neg hy, if_neg (fun e => hy (by have := (xor_even _ _).1 e; omega)), Nat.xor_assoc, Nat.xor_comm (2 ^ k * h), ← Nat.xor_assoc]
theorem low_high (x : Nat) : x = (x % 256) ^^^ 2 ^ 8 * (x / 256) := by
  apply Nat.eq_of_testBit_eq; intro i
  rw [Nat.testBit_xor, show 256 = 2 ^ 8 from rfl, Nat.testBit_mod_two_pow, Nat.testBit_two_pow_mul, Nat.testBit_div_two_pow]
  by_cases h : i < 8
  · have : ¬ (8 ≤ i) := by omega
    simp [h, this]
  · have h8 : 8 ≤ i := by omega
    simp [h, h8, show i - 8 + 8 = i by omega, show 8 + (i - 8) = i by omega]
/-- eight steps of a byte at once -/
theorem cmore1_cits (x c : Nat) : cmore1 x c = cits 8 (x ^^^ c) := by
  unfold cmore1
  have h := cits_high 8 ((x % 256) ^^^ c) (x / 256)
  rw [Nat.xor_comm (x / 256), ← h]
  congr 1
  rw [Nat.xor_assoc, Nat.xor_comm c, ← Nat.xor_assoc, ← low_high]
/-- the document's eight steps -/
theorem cbits_cmore1 (x c : Nat) (hc : c < 256) : cbits x c 8 = cmore1 x c := by
  have h := cbits_cits x c 8
  rw [show c / 2 ^ 8 = 0 from Nat.div_eq_of_lt hc, Nat.xor_zero] at h
  rw [h, cmore1_cits]
theorem xor_lt32 {a b : Nat} (ha : a < 4294967296) (hb : b < 4294967296) : a ^^^ b < 4294967296 := Nat.xor_lt_two_pow (n := 32) ha hb
theorem xor_lt8 {a b : Nat} (ha : a < 256) (hb : b < 256) : a ^^^ b < 256 := Nat.xor_lt_two_pow (n := 8) ha hb
theorem cstp_lt {x : Nat} (h : x < 4294967296) : cstp x < 4294967296 := by
  unfold cstp
  split
  · omega
  · exact xor_lt32 (by omega) (by decide)
theorem cits_lt {x : Nat} (h : x < 4294967296) : ∀ n, cits n x < 4294967296
  | 0 => h
  | n + 1 => cstp_lt (cits_lt h n)
theorem cmore1_lt {x c : Nat} (h : x < 4294967296) (hc : c < 256) : cmore1 x c < 4294967296 := by
  rw [cmore1_cits]; exact cits_lt (xor_lt32 h (by omega)) 8
theorem creg_lt : ∀ (b : List Nat) (x : Nat), x < 4294967296 → (∀ c ∈ b, c < 256) → creg x b < 4294967296
  | [], x, h, _ => h
  | c :: b, x, h, hb => creg_lt b _ (cmore1_lt h (hb c (by simp))) (fun d hd => hb d (by simp [hd]))
theorem cbit_lt {x c k : Nat} (h : x < 4294967296) : cbit x c k < 4294967296 := by
  unfold cbit
  split
  · omega
  · exact xor_lt32 (by omega) (by decide)
theorem cbits_lt {x c : Nat} (h : x < 4294967296) : ∀ k, cbits x c k < 4294967296
  | 0 => h
  | k + 1 => cbit_lt (cbits_lt h k)
theorem cmore_lt (s : Nat) (b : List Nat) : cmore s b < 4294967296 := by unfold cmore; omega
theorem csum_lt (b : List Nat) : csum b < 4294967296 := cmore_lt 0 b
theorem creg_snoc (x : Nat) (b : List Nat) (c : Nat) : creg x (b ++ [c]) = cmore1 (creg x b) c := by simp [creg]
theorem creg_append (x : Nat) (a b : List Nat) : creg x (a ++ b) = creg (creg x a) b := by simp [creg]
/-- in however many parts they come -/
theorem cmore_append (a b : List Nat) (ha : ∀ c ∈ a, c < 256) : cmore (csum a) b = csum (a ++ b) := by
  unfold csum cmore
  have h := creg_lt a (4294967295 - 0) (by omega) ha
  rw [show 4294967295 - (4294967295 - creg (4294967295 - 0) a) = creg (4294967295 - 0) a by omega, creg_append]
theorem cstp_inj {x y : Nat} (hx : x < 4294967296) (hy : y < 4294967296) (h : cstp x = cstp y) : x = y := by
  have big : ∀ z, z < 4294967296 → 2147483648 ≤ (z / 2) ^^^ cpoly := by
    intro z hz
    have hb : ((z / 2) ^^^ cpoly).testBit 31 = true := by
      rw [Nat.testBit_xor, Nat.testBit_lt_two_pow (x := z / 2) (i := 31) (by omega)]
      decide
    exact Nat.ge_two_pow_of_testBit hb
  unfold cstp at h
  by_cases h1 : x % 2 = 0 <;> by_cases h2 : y % 2 = 0
  · rw [if_pos h1, if_pos h2] at h; omega
  · rw [if_pos h1, if_neg h2] at h; have := big y hy; omega
  · rw [if_neg h1, if_pos h2] at h; have := big x hx; omega
  · rw [if_neg h1, if_neg h2] at h
    have : x / 2 = y / 2 := by
      have h3 := congrArg (fun z => z ^^^ cpoly) h
      simpa [Nat.xor_assoc] using h3
    omega
theorem cits_inj {x y : Nat} (hx : x < 4294967296) (hy : y < 4294967296) : ∀ n, cits n x = cits n y → x = y
  | 0, h => h
  | n + 1, h => cits_inj hx hy n (cstp_inj (cits_lt hx n) (cits_lt hy n) h)
theorem xor_cancel {a b c : Nat} (h : a ^^^ c = b ^^^ c) : a = b := by
  have h3 := congrArg (fun z => z ^^^ c) h
  simpa [Nat.xor_assoc] using h3
theorem creg_inj : ∀ (b : List Nat) {x y : Nat}, x < 4294967296 → y < 4294967296 → (∀ c ∈ b, c < 256) → creg x b = creg y b → x = y
  | [], x, y, _, _, _, h => h
  | c :: b, x, y, hx, hy, hb, h => by
    have hc := hb c (by simp)
    have h1 := creg_inj b (cmore1_lt hx hc) (cmore1_lt hy hc) (fun d hd => hb d (by simp [hd])) h
    rw [cmore1_cits, cmore1_cits] at h1
    exact xor_cancel (cits_inj (xor_lt32 hx (by omega)) (xor_lt32 hy (by omega)) 8 h1)
theorem csum_ne (p q : List Nat) (c d : Nat) (hp : ∀ x ∈ p, x < 256) (hq : ∀ x ∈ q, x < 256) (hc : c < 256) (hd : d < 256) (hne : c ≠ d) : csum (p ++ c :: q) ≠ csum (p ++ d :: q) := by
  intro h
  unfold csum cmore at h
  have l1 := creg_lt (p ++ c :: q) (4294967295 - 0) (by omega) (by intro x hx; rcases List.mem_append.1 hx with h | h; exact hp x h; rcases List.mem_cons.1 h with h | h; omega; exact hq x h)
  have l2 := creg_lt (p ++ d :: q) (4294967295 - 0) (by omega) (by intro x hx; rcases List.mem_append.1 hx with h | h; exact hp x h; rcases List.mem_cons.1 h with h | h; omega; exact hq x h)
  have h : creg (4294967295 - 0) (p ++ c :: q) = creg (4294967295 - 0) (p ++ d :: q) := by omega
  rw [creg_append, creg_append] at h
  have l3 := creg_lt p (4294967295 - 0) (by omega) hp
  have h1 := creg_inj q (cmore1_lt l3 hc) (cmore1_lt l3 hd) hq h
  rw [cmore1_cits, cmore1_cits] at h1
  have h2 := cits_inj (xor_lt32 l3 (by omega)) (xor_lt32 l3 (by omega)) 8 h1
  rw [Nat.xor_comm _ c, Nat.xor_comm _ d] at h2
  exact hne (xor_cancel h2)
theorem cbytes_len (x : Nat) : (cbytes x).length = 4 := rfl
theorem cbytes_lt (x : Nat) : ∀ c ∈ cbytes x, c < 256 := by
  intro c hc
  simp only [cbytes, List.mem_cons, List.not_mem_nil, or_false] at hc
  omega
theorem cbytes_inj {x y : Nat} (hx : x < 4294967296) (hy : y < 4294967296) (h : cbytes x = cbytes y) : x = y := by
  simp only [cbytes, List.cons.injEq, and_true] at h
  omega
end Go.Proofs.Ytkencaebmgiakaa
