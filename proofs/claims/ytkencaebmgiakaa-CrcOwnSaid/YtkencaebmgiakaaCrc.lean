/- The sums: what a byte does, more bytes, the document's sum. -/
import Derived.Test.YtkencaebmgiakaaCrcPlain
import Derived.Deep.RegionHeld3
import Derived.Deep.RegionLaw
import Derived.Deep.DrawnRows
namespace Go.Proofs.Ytkencaebmgiakaa
open Go.RowKit
set_option linter.unusedVariables false
set_option linter.unusedSimpArgs false

def u8s (b : List Nat) : List Value := b.map fun (c : Nat) => Value.int .u8 (c : Int)
def Bts (b : List Nat) : Prop := ∀ c ∈ b, c < 256

theorem cits_step (x i : Nat) (h : cits i x % 2 = 0) : cits (i + 1) x = cits i x / 2 := by show cstp _ = _; unfold cstp; rw [if_pos h]
theorem cits_step1 (x i : Nat) (h : cits i x % 2 ≠ 0) : cits (i + 1) x = (cits i x / 2) ^^^ 3988292384 := by show cstp _ = _; unfold cstp; rw [if_neg h]; rfl

set_option maxRecDepth 100000 in
set_option maxHeartbeats 1000000 in
theorem at_any (c : Nat) (hc : c < 256) (w : World) :
    Calls Try.prog 15 #[.int .u8 (c : Int)] w fun e w' => e = .returned (.int .u32 (cits 8 c : Nat)) ∧ w' = w := by
  go_enter Try.func15, Try.ntmps15
  go_wp2
  go_loopw [3, 4, 7] (fun x _ i wr => ∃ k : Nat, k ≤ 8 ∧ i = .int .i64 k ∧ x = .int .u32 (cits k c : Nat) ∧ wr = w) (fun _ _ i _ => 8 - (intOf i).toNat)
  case atStart => exact ⟨0, by omega, rfl, by go_num, rfl⟩
  case round =>
    obtain ⟨k, hk, rfl, rfl, rfl⟩ := hrel
    have hx := cits_lt (x := c) (by omega) k
    by_cases hlt : k < 8
    · have e1 : bits .and .u32 ((cits k c : Nat) : Int) 1 = ((cits k c % 2 : Nat) : Int) := by
        have := u32_and_nat (cits k c) 1 hx (by decide)
        rw [nat_mask1] at this; exact this
      by_cases h0 : cits k c % 2 = 0
      · have HD := Lib.hid (cits_step c k h0)
        rw [h0] at e1
        clear h0
        generalize cits k c = x at *
        go_wp2
        go_roundw
        case rel => exact ⟨k + 1, by omega, by go_num, by rw [HD.out]; go_num, by first | rfl | trivial⟩
        case measure => simp [intOf]; omega
      · have HD := Lib.hid (cits_step1 c k h0)
        have h1 : cits k c % 2 = 1 := by omega
        rw [h1] at e1
        have e2 : bits .xor .u32 (((cits k c : Nat) : Int) / 2) 3988292384 = ((cits k c / 2 ^^^ 3988292384 : Nat) : Int) := by
          have := u32_xor_nat (cits k c / 2) 3988292384 (by omega) (by decide)
          rw [← this]; rfl
        clear h0 h1
        go_wp2
        go_roundw
        case rel => exact ⟨k + 1, by omega, by go_num, by rw [HD.out], by first | rfl | trivial⟩
        case measure => simp [intOf]; omega
    · obtain rfl : k = 8 := by omega
      go_wp2
      go_ret
      exact ⟨rfl, rfl⟩

theorem u8s_at {b : List Nat} {k : Nat} (h : k < b.length) : (u8s b)[k]? = some (.int .u8 ((b.getD k 0 : Nat) : Int)) := by simp [u8s, h]
theorem u8s_length (b : List Nat) : (u8s b).length = b.length := by simp [u8s]
theorem bts_at {b : List Nat} (h : Bts b) (k : Nat) : b.getD k 0 < 256 := by
  by_cases hk : k < b.length
  · have := h b[k] (List.getElem_mem hk)
    simpa [hk] using this
  · simp [Nat.le_of_not_lt hk]
theorem creg_take (x : Nat) (b : List Nat) (k : Nat) (h : k < b.length) : creg x (b.take (k + 1)) = cmore1 (creg x (b.take k)) (b.getD k 0) := by
  rw [List.take_add_one, List.getElem?_eq_getElem h]
  simp only [Option.toList_some, creg_snoc]
  simp [h]

theorem unxor (x : Nat) (hx : x < 4294967296) : bits .xor .u32 IntKind.u32.max (x : Int) = ((4294967295 - x : Nat) : Int) := by
  have h := u32_xor_nat 4294967295 x (by decide) hx
  have e : 4294967295 ^^^ x = 4294967295 - x := by
    apply Nat.eq_of_testBit_eq; intro i
    rw [Nat.testBit_xor, show 4294967295 - x = 2 ^ 32 - (x + 1) by omega, Nat.testBit_two_pow_sub_succ (by omega), show 4294967295 = 2 ^ 32 - 1 by rfl, Nat.testBit_two_pow_sub_one]
    by_cases hi : i < 32
    · simp [hi]
    · have : x.testBit i = false := Nat.testBit_lt_two_pow (Nat.lt_of_lt_of_le hx (by rw [show 4294967296 = 2 ^ 32 by rfl]; exact Nat.pow_le_pow_right (by decide) (by omega)))
      simp [hi, this]
  rw [← e, ← h]; rfl

set_option maxRecDepth 100000 in
set_option maxHeartbeats 1000000 in
theorem more_any (s : Nat) (hs : s < 4294967296) (v : Value) (b : List Nat) (w : World) (h : Reads w 1 v b.length (u8s b)) (hb : Bts b) :
    Calls Try.prog 10 #[.int .u32 (s : Int), v] w fun e w' => e = .returned (.int .u32 (cmore s b : Nat)) ∧ w' = w := by
  have HR := Lib.hid h
  obtain ⟨A, c, rfl, hnc, hcm, -⟩ := h.val
  have hl : b.length ≤ 9223372036854775807 := by unfold maxLen at hcm; omega
  clear h hnc hcm
  go_enter Try.func10, Try.ntmps10
  go_wp2
  go_loopw [5, 7, 12] (fun x _ i wr => ∃ k : Nat, k ≤ b.length ∧ i = .int .i64 k ∧ x = .int .u32 (creg (4294967295 - s) (b.take k) : Nat) ∧ wr = w) (fun _ _ i _ => b.length - (intOf i).toNat)
  case atStart => exact ⟨0, by omega, rfl, by rw [unxor s hs]; rfl, rfl⟩
  case round =>
    obtain ⟨k, hk, rfl, rfl, rfl⟩ := hrel
    have hx := creg_lt (b.take k) (4294967295 - s) (by omega) (fun c hc => hb c (List.mem_of_mem_take hc))
    by_cases hlt : k < b.length
    · obtain ⟨B, o, c', he, hc⟩ := HR.out.at k _ (u8s_at hlt)
      cases he
      have HD := Lib.hid (creg_take (4294967295 - s) b k hlt)
      have hd := bts_at hb k
      generalize b.getD k 0 = d at *
      generalize creg (4294967295 - s) (b.take k) = x at *
      have e1 : bits .xor .u8 ((x : Int) % 256) (d : Int) = ((x % 256 ^^^ d : Nat) : Int) := by
        rw [← u8_xor_nat (x % 256) d (by omega) hd]; rfl
      have e2 : bits .xor .u32 ((x : Int) / 256) ((cits 8 (x % 256 ^^^ d) : Nat) : Int) = ((cmore1 x d : Nat) : Int) := by
        have := u32_xor_nat (x / 256) (cits 8 (x % 256 ^^^ d)) (by omega) (cits_lt (by have := xor_lt8 (a := x % 256) (b := d) (by omega) hd; omega) 8)
        rw [show ((x : Int) / 256) = ((x / 256 : Nat) : Int) by omega, this]; rfl
      have e3 := xor_lt8 (a := x % 256) (b := d) (by omega) hd
      go_wp2_with fail
      refine (at_any _ e3 _).mono ?_
      rintro _ _ ⟨rfl, rfl⟩
      go_wp2
      go_roundw
      case rel => exact ⟨k + 1, by omega, by go_num, by rw [HD.out], by first | rfl | trivial⟩
      case measure => simp [intOf]; omega
    · obtain rfl : k = b.length := by omega
      rw [List.take_length] at hx ⊢
      have e1 := unxor _ hx
      go_wp2
      go_ret
      exact ⟨rfl, rfl⟩

set_option maxRecDepth 100000 in
theorem sum_any (v : Value) (b : List Nat) (w : World) (h : Reads w 1 v b.length (u8s b)) (hb : Bts b) :
    Calls Try.prog 8 #[v] w fun e w' => e = .returned (.int .u32 (csum b : Nat)) ∧ w' = w := by
  have HR := Lib.hid h
  obtain ⟨A, c, rfl, -⟩ := h.val
  clear h
  go_enter Try.func8, Try.ntmps8
  go_wp2_with fail
  refine (more_any 0 (by decide) _ b _ HR.out hb).mono ?_
  rintro _ _ ⟨rfl, rfl⟩
  go_wp2
  go_ret
  exact ⟨rfl, rfl⟩

theorem cbits_step (x c k : Nat) (h : cbits x c k % 2 = c / 2 ^ k % 2) : cbits x c (k + 1) = cbits x c k / 2 := by show cbit _ _ _ = _; unfold cbit; rw [if_pos h]
theorem cbits_step1 (x c k : Nat) (h : ¬ cbits x c k % 2 = c / 2 ^ k % 2) : cbits x c (k + 1) = (cbits x c k / 2) ^^^ 3988292384 := by show cbit _ _ _ = _; unfold cbit; rw [if_neg h]; rfl

set_option maxRecDepth 100000 in
set_option maxHeartbeats 1000000 in
theorem refSum_any (v : Value) (b : List Nat) (w : World) (h : Reads w 1 v b.length (u8s b)) (hb : Bts b) :
    Calls Try.prog 9 #[v] w fun e w' => e = .returned (.int .u32 (csum b : Nat)) ∧ ∃ m, w' = w.drewN m := by
  have HR := Lib.hid h
  obtain ⟨A, c, rfl, hnc, hcm, -⟩ := h.val
  have hl : b.length ≤ 9223372036854775807 := by unfold maxLen at hcm; omega
  clear h hnc hcm
  go_enter Try.func9, Try.ntmps9
  go_wp2
  go_loopw [3, 4, 5, 6, 7] (fun x i _ _ _ wr => ∃ k : Nat, k ≤ b.length ∧ i = .int .i64 k ∧ x = .int .u32 (creg 4294967295 (b.take k) : Nat) ∧ ∃ m, wr = w.drewN m) (fun _ i _ _ _ _ => b.length - (intOf i).toNat)
  case atStart => exact ⟨0, by omega, rfl, rfl, 0, rfl⟩
  case round =>
    obtain ⟨k, hk, rfl, rfl, m, rfl⟩ := hrel
    have hx := creg_lt (b.take k) 4294967295 (by omega) (fun c hc => hb c (List.mem_of_mem_take hc))
    by_cases hlt : k < b.length
    · obtain ⟨B, o, c', he, hc⟩ := HR.out.at k _ (u8s_at hlt)
      cases he
      have HD := Lib.hid (creg_take 4294967295 b k hlt)
      have hd := bts_at hb k
      generalize b.getD k 0 = d at *
      generalize creg 4294967295 (b.take k) = x at *
      go_wp2
      go_loopw [3, 5, 6, 7] (fun y j _ _ wr => ∃ q : Nat, q ≤ 8 ∧ j = .int .i64 q ∧ y = .int .u32 (cbits x d q : Nat) ∧ ∃ m, wr = w.drewN m) (fun _ j _ _ _ => 8 - (intOf j).toNat)
      case atStart => exact ⟨0, by omega, rfl, rfl, m, rfl⟩
      case round =>
        obtain ⟨q, hq, rfl, rfl, m, rfl⟩ := hrel
        have hy := cbits_lt (c := d) hx q
        by_cases hlq : q < 8
        · have hx2 : bits .xor .u32 (((cbits x d q : Nat) : Int) / 2) 3988292384 = ((cbits x d q / 2 ^^^ 3988292384 : Nat) : Int) := by
            have := u32_xor_nat (cbits x d q / 2) 3988292384 (by omega) (by decide)
            rw [← this]; rfl
          by_cases hc2 : cbits x d q % 2 = d / 2 ^ q % 2
          · have HD2 := Lib.hid (cbits_step x d q hc2)
            clear hx2
            obtain ⟨q', hq'⟩ : ∃ q', q' = q + 1 := ⟨_, rfl⟩
            rcases (by omega : q = 0 ∨ q = 1 ∨ q = 2 ∨ q = 3 ∨ q = 4 ∨ q = 5 ∨ q = 6 ∨ q = 7) with rfl | rfl | rfl | rfl | rfl | rfl | rfl | rfl
            all_goals
              simp only [Nat.reducePow, Nat.div_one] at hc2
              go_wp2
              go_quiet (fail)
              obtain ⟨m1, rfl⟩ : ∃ m, m = nq := ⟨_, rfl⟩
              go_wp2
              go_roundw
              case rel => exact ⟨q', by omega, by rw [hq']; rfl, by rw [hq', HD2.out]; first | done | go_num, _, rfl⟩
              case measure => first | decide | (simp [intOf]; done)
          · have HD2 := Lib.hid (cbits_step1 x d q hc2)
            obtain ⟨q', hq'⟩ : ∃ q', q' = q + 1 := ⟨_, rfl⟩
            rcases (by omega : q = 0 ∨ q = 1 ∨ q = 2 ∨ q = 3 ∨ q = 4 ∨ q = 5 ∨ q = 6 ∨ q = 7) with rfl | rfl | rfl | rfl | rfl | rfl | rfl | rfl
            all_goals
              simp only [Nat.reducePow, Nat.div_one] at hc2
              go_wp2
              go_quiet (fail)
              obtain ⟨m1, rfl⟩ : ∃ m, m = nq := ⟨_, rfl⟩
              go_wp2
              go_roundw
              case rel => exact ⟨q', by omega, by rw [hq']; rfl, by rw [hq', HD2.out]; first | done | go_num, _, rfl⟩
              case measure => first | decide | (simp [intOf]; done)
        · obtain rfl : q = 8 := by omega
          go_wp2
          go_roundw
          case rel => exact ⟨k + 1, by omega, by go_num, by rw [HD.out, cbits_cmore1 _ _ hd], _, by first | rfl | trivial⟩
          case measure => simp [intOf]; omega
    · obtain rfl : k = b.length := by omega
      rw [List.take_length] at hx ⊢
      go_wp2
      go_ret
      exact ⟨ret_int (by unfold csum cmore; simp only [Nat.sub_zero]; omega), _, rfl⟩
end Go.Proofs.Ytkencaebmgiakaa
