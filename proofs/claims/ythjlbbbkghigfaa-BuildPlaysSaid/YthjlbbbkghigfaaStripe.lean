/- stripe: a plan in memory. -/
import Derived.Test.YthjlbbbkghigfaaRanges4
import Derived.Test.YthjlbbbkghigfaaBitLen
namespace Go.Proofs.Ythjlbbbkghigfaa
open Go.RowKit
set_option linter.unusedVariables false
set_option linter.unusedSimpArgs false

/-- what a plan may be -/
def PlanOk (s k n : Nat) : Prop := s ≤ 16384 ∧ 1 ≤ k ∧ k ≤ 64 ∧ 1 ≤ n ∧ n ≤ 8
/-- a plan in memory -/
def PlanAt (w : World) (b s k n : Nat) : Prop := Blk w b #[.int .i64 s, .int .i64 k, .int .i64 n] 70
theorem PlanAt.c {w : World} {b s k n : Nat} (h : PlanAt w b s k n) : w.cell? ⟨b, 0, none⟩ = some (.int .i64 s) ∧ w.cell? ⟨b, 1, none⟩ = some (.int .i64 k) ∧ w.cell? ⟨b, 2, none⟩ = some (.int .i64 n) := ⟨h.cell 0 rfl, h.cell 1 rfl, h.cell 2 rfl⟩
theorem PlanAt.below {w w' : World} {b s k n : Nat} (h : PlanAt w b s k n) (hb : Below w.heap.size w w') : PlanAt w' b s k n := Blk.keep h (Keep.none hb) id
/-- how many blocks -/
def nb (s k : Nat) : Nat := (s + k - 1) / k
/-- a block's layer -/
def lyr (n i : Nat) : Nat := bl (i % 2 ^ (n - 1))
theorem bits_and_i64_nat (a b : Nat) (ha : a < 9223372036854775808) (hb : b < 9223372036854775808) : bits .and .i64 (a : Int) (b : Int) = ((a &&& b : Nat) : Int) := by
  have hx : a &&& b < 2 ^ 63 := Nat.and_lt_two_pow _ (by omega)
  have h1 : (BitVec.ofInt 64 (a : Int)).toNat = a := by
    rw [BitVec.ofInt_natCast, BitVec.toNat_ofNat]; exact Nat.mod_eq_of_lt (by omega)
  have h2 : (BitVec.ofInt 64 (b : Int)).toNat = b := by
    rw [BitVec.ofInt_natCast, BitVec.toNat_ofNat]; exact Nat.mod_eq_of_lt (by omega)
  show IntKind.i64.wrap ((BitVec.ofInt 64 (a : Int) &&& BitVec.ofInt 64 (b : Int)).toNat : Int) = _
  rw [BitVec.toNat_and, h1, h2]
  exact IntWalk.i64_in _ (by omega)
theorem mask_any (n i : Nat) (hn : 1 ≤ n ∧ n ≤ 8) (hi : i ≤ 1000000) : IntKind.u64.wrap (bits .and .i64 (i : Int) (wrap64 (wrap64 (2 ^ (n - 1)) - 1))) = ((i % 2 ^ (n - 1) : Nat) : Int) := by
  have e : wrap64 (wrap64 (2 ^ (n - 1)) - 1) = ((2 ^ (n - 1) - 1 : Nat) : Int) := by
    obtain ⟨h1, h2⟩ := hn
    rcases (by omega : n = 1 ∨ n = 2 ∨ n = 3 ∨ n = 4 ∨ n = 5 ∨ n = 6 ∨ n = 7 ∨ n = 8) with rfl | rfl | rfl | rfl | rfl | rfl | rfl | rfl <;> decide +kernel
  have hp : 2 ^ (n - 1) ≤ 2 ^ 7 := Nat.pow_le_pow_right (by omega) (by omega)
  have hle : i % 2 ^ (n - 1) ≤ i := Nat.mod_le _ _
  rw [e, bits_and_i64_nat _ _ (by omega) (by omega), Nat.and_two_pow_sub_one_eq_mod, IntKind.wrap_u64]
  omega
theorem lyr_lt (n i : Nat) (hn : 1 ≤ n ∧ n ≤ 8) : i % 2 ^ (n - 1) < 256 := by
  have hp : 2 ^ (n - 1) ≤ 2 ^ 7 := Nat.pow_le_pow_right (by omega) (by omega)
  have := Nat.mod_lt i (Nat.pow_pos (by omega) : 0 < 2 ^ (n - 1))
  omega
set_option maxRecDepth 100000 in
theorem layer_any (b s k n i : Nat) (w : World) (h : PlanAt w b s k n) (hn : 1 ≤ n ∧ n ≤ 8) (hi : i ≤ 1000000) :
    Calls Try.prog 46 #[.pointer (some ⟨b, 0, none⟩), .int .i64 i] w fun e w' => e = .returned (.int .i64 (lyr n i)) ∧ w = w' := by
  obtain ⟨c0, c1, c2⟩ := h.c
  clear h
  have H := Lib.hid (bitlen_any (i % 2 ^ (n - 1)) w (lyr_lt n i hn))
  have HM := Lib.hid (mask_any n i hn hi)
  have h1 : (0 : Int) ≤ n - 1 := by omega
  have h2 : (n : Int) - 1 < 64 := by omega
  go_enter Try.func46, Try.ntmps46
  go_wp2_with fail
  rw [HM.out]
  refine H.out.mono ?_
  rintro e w1 ⟨rfl, rfl⟩
  go_wp2
  go_ret
  exact ⟨rfl, rfl⟩
theorem nb_le {s k : Nat} (h : s ≤ 16384) (hk : 1 ≤ k) : nb s k ≤ 16384 := by
  unfold nb
  have h1 : s + k - 1 < (16384 + 1) * k := by
    have : 16384 * 1 ≤ 16384 * k := Nat.mul_le_mul_left _ hk
    rw [Nat.add_mul]; omega
  have := (Nat.div_lt_iff_lt_mul hk).2 h1
  omega
set_option maxRecDepth 100000 in
theorem blocks_any (b s k n : Nat) (w : World) (h : PlanAt w b s k n) (hp : PlanOk s k n) :
    Calls Try.prog 15 #[.pointer (some ⟨b, 0, none⟩)] w fun e w' => e = .returned (.int .i64 (nb s k)) ∧ Below w.heap.size w w' := by
  obtain ⟨c0, c1, c2⟩ := h.c
  obtain ⟨h1, h2, h3, h4, h5⟩ := hp
  clear h
  have e1 : (((s : Int) + k - 1) / k) = ((nb s k : Nat) : Int) := by
    unfold nb
    rw [Int.natCast_ediv]
    congr 1
    omega
  have h6 : (k : Int) ≠ 0 := by omega
  have HB : Hid (∀ m, Below w.heap.size w (w.drewN m)) := fun m => below_drewN (Below.refl _ w) m
  have hl := nb_le h1 h2
  have HE : Hid (((s : Int) + k - 1) / k = ((nb s k : Nat) : Int)) := e1
  have HT : Hid (((s : Int) + k - 1).tdiv k = ((nb s k : Nat) : Int)) := (Int.tdiv_eq_ediv_of_nonneg (by omega)).trans e1
  clear e1
  go_enter Try.func15, Try.ntmps15
  go_wp2_with fail
  go_quiet (fail)
  go_wp2
  go_ret
  exact ⟨congrArg (fun z => Ending.returned (.int .i64 z)) HE.out, HB.out _⟩
instance (s k n : Int) : Decidable (0 ≤ s ∧ s ≤ 16384 ∧ 1 ≤ k ∧ k ≤ 64 ∧ 1 ≤ n ∧ n ≤ 8) := inferInstance
/-- may it be a plan? -/
def planB (s k n : Int) : Bool := decide (0 ≤ s ∧ s ≤ 16384 ∧ 1 ≤ k ∧ k ≤ 64 ∧ 1 ≤ n ∧ n ≤ 8)
theorem planB_ok {s k n : Int} (h : planB s k n = true) : ∃ s' k' n' : Nat, s = s' ∧ k = k' ∧ n = n' ∧ PlanOk s' k' n' := by
  have h := of_decide_eq_true h
  exact ⟨s.toNat, k.toNat, n.toNat, by omega, by omega, by omega, by omega, by omega, by omega, by omega, by omega⟩
theorem planB_nat {s k n : Nat} : planB s k n = true ↔ PlanOk s k n := by
  unfold planB PlanOk
  rw [decide_eq_true_iff]
  omega
set_option maxRecDepth 100000 in
/-- New of what may be a plan -/
theorem pnew_yes (s k n : Nat) (w : World) (h : PlanOk s k n) : Calls Try.prog 26 #[.int .i64 s, .int .i64 k, .int .i64 n] w fun e w' => e = .returned (.tuple #[.pointer (some ⟨w.heap.size, 0, none⟩), .int .i64 0]) ∧ PlanAt w' w.heap.size s k n ∧ Below w.heap.size w w' := by
  obtain ⟨h1, h2, h3, h4, h5⟩ := h
  have g1 : ¬ (s : Int) < 0 := by omega
  have g2 : ¬ (16384 : Int) < s := by omega
  have g3 : ¬ (k : Int) < 1 := by omega
  have g4 : ¬ (64 : Int) < k := by omega
  have g5 : ¬ (n : Int) < 1 := by omega
  have g6 : ¬ (8 : Int) < n := by omega
  go_enter Try.func26, Try.ntmps26
  go_wp2_with fail
  go_ret2
  exact ⟨rfl, Blk.new w _ _, (Below.refl _ w).alloc (Nat.le_refl _) _⟩
set_option maxRecDepth 100000 in
/-- New of what may not -/
theorem pnew_no (s k n : Int) (w : World) (h : planB s k n = false) : Calls Try.prog 26 #[.int .i64 s, .int .i64 k, .int .i64 n] w fun e w' => e = .returned (.tuple #[.pointer none, .int .i64 11]) ∧ w = w' := by
  have h := of_decide_eq_false h
  by_cases h1 : 0 ≤ s
  · by_cases h2 : s ≤ 16384
    · by_cases h3 : 1 ≤ k
      · by_cases h4 : k ≤ 64
        · by_cases h5 : 1 ≤ n
          · have h6 : ¬ n ≤ 8 := fun e => h ⟨h1, h2, h3, h4, h5, e⟩
            clear h
            go_enter Try.func26, Try.ntmps26
            go_wp2_with fail
            go_ret2
            exact ⟨rfl, rfl⟩
          clear h
          go_enter Try.func26, Try.ntmps26
          go_wp2_with fail
          go_ret2
          exact ⟨rfl, rfl⟩
        clear h
        go_enter Try.func26, Try.ntmps26
        go_wp2_with fail
        go_ret2
        exact ⟨rfl, rfl⟩
      clear h
      go_enter Try.func26, Try.ntmps26
      go_wp2_with fail
      go_ret2
      exact ⟨rfl, rfl⟩
    clear h
    go_enter Try.func26, Try.ntmps26
    go_wp2_with fail
    go_ret2
    exact ⟨rfl, rfl⟩
  clear h
  go_enter Try.func26, Try.ntmps26
  go_wp2_with fail
  go_ret2
  exact ⟨rfl, rfl⟩
set_option maxRecDepth 100000 in
theorem has_pl (b s k n : Nat) (i : Int) (w : World) (h : PlanAt w b s k n) (hp : PlanOk s k n) :
    Calls Try.prog 42 #[.pointer (some ⟨b, 0, none⟩), .int .i64 i] w fun e w' => e = .returned (.bool (decide (0 ≤ i ∧ i < nb s k))) ∧ Below w.heap.size w w' := by
  have HB := Lib.hid (blocks_any b s k n w h hp)
  have HL := Lib.hid (Below.refl w.heap.size w)
  clear h hp
  generalize nb s k = m at *
  by_cases h1 : 0 ≤ i
  · go_enter Try.func42, Try.ntmps42
    go_wp2_with fail
    refine HB.out.mono ?_
    rintro e w1 ⟨rfl, hb⟩
    have H := Lib.hid hb
    clear hb
    go_wp2_with fail
    go_ret
    exact ⟨ret_bool (a := decide (i < m)) (by simp [h1]), H.out⟩
  · go_enter Try.func42, Try.ntmps42
    go_wp2_with fail
    go_ret
    exact ⟨ret_bool (a := false) (by rw [decide_eq_false (show ¬ 0 ≤ i by omega)]; rfl), HL.out⟩
end Go.Proofs.Ythjlbbbkghigfaa
