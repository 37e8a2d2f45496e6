/- crc: Turn. -/
import Derived.Test.YtkencaebmgiakaaCrc2
namespace Go.Proofs.Ytkencaebmgiakaa
open Go.RowKit
set_option linter.unusedVariables false
set_option linter.unusedSimpArgs false

theorem wrapGo {n : Int} (h : -9223372036854775808 ≤ n ∧ n ≤ 9223372036854775807) : IntKind.i64.wrap n = n := IntWalk.i64_in _ (by omega)
/-- the bit that is meant -/
def tbit (n : Nat) (bit : Int) : Nat := ((bit.tmod (8 * n) + 8 * n).tmod (8 * n)).toNat
def turnb (b : List Nat) (p : Nat) : List Nat := b.set (p / 8) (b.getD (p / 8) 0 ^^^ 2 ^ (p % 8))

theorem tmod_lt {x n : Int} (hn : 0 < n) : -n < x.tmod n ∧ x.tmod n < n := ⟨by have := Int.tmod_lt_of_pos (-x) hn; rw [Int.neg_tmod] at this; omega, Int.tmod_lt_of_pos x hn⟩
theorem tbit_eq {n : Nat} (bit : Int) (hn : 0 < n) : (bit.tmod (8 * (n : Int)) + 8 * (n : Int)).tmod (8 * (n : Int)) = (tbit n bit : Int) ∧ tbit n bit < 8 * n := by
  have h1 := tmod_lt (x := bit) (n := 8 * (n : Int)) (by omega)
  have h2 : 0 ≤ (bit.tmod (8 * (n : Int)) + 8 * (n : Int)).tmod (8 * (n : Int)) := Int.tmod_nonneg _ (by omega)
  have h3 := Int.tmod_lt_of_pos (bit.tmod (8 * (n : Int)) + 8 * (n : Int)) (b := 8 * (n : Int)) (by omega)
  unfold tbit
  omega
theorem u8s_set (b : List Nat) (i c : Nat) : (u8s b).set i (.int .u8 (c : Int)) = u8s (b.set i c) := by simp [u8s, List.map_set]

set_option maxRecDepth 100000 in
set_option maxHeartbeats 1000000 in
theorem turn_any (v : Value) (b : List Nat) (bit : Int) (w : World) (h : Reads w 1 v b.length (u8s b)) (hb : Bts b) (hn : b.length ≤ 10000000) (h0 : 0 < b.length) (hbit : -9223372036854775808 ≤ bit ∧ bit ≤ 9223372036854775807) :
    Calls Try.prog 14 #[v, .int .i64 bit] w fun e w' => ∃ v', e = .returned v' ∧ Own w' v' (turnb b (tbit b.length bit)) ∧ (∀ g, v'.ownBlock = some g → w.heap.size ≤ g) ∧ Below w.heap.size w w' := by
  have e1 : IntKind.i64.wrap (8 * (b.length : Int)) = 8 * (b.length : Int) := wrapGo (by omega)
  have e2 : (0 : Int) < 8 * (b.length : Int) := by omega
  have hm := tmod_lt (x := bit) e2
  have e3 : IntKind.i64.wrap (bit.tmod (8 * (b.length : Int)) + 8 * (b.length : Int)) = bit.tmod (8 * (b.length : Int)) + 8 * (b.length : Int) := wrapGo (by omega)
  obtain ⟨e4, e5⟩ := tbit_eq bit h0
  obtain ⟨p, hp⟩ : ∃ p, p = tbit b.length bit := ⟨_, rfl⟩
  rw [← hp] at e4 e5 ⊢
  clear hm hp
  have HR := Lib.hid h
  obtain ⟨A, c, rfl, -⟩ := h.val
  clear h
  go_enter Try.func14, Try.ntmps14
  go_wp2_with fail
  refine (clone_bytes _ b.length (u8s b) _ HR.out (by omega) (u8s_one _)).mono ?_
  rintro e w1 ⟨A1, c1, rfl, ho1, hb1, hn1⟩
  cases A1 with
  | none => exact absurd (ho1.2) (by rintro (⟨h, h'⟩ | ⟨g, cap, cur, h, _⟩) <;> simp_all)
  | some a1 =>
  have ho1' := ho1
  obtain ⟨g, o, sp⟩ := a1
  obtain ⟨rfl, rfl⟩ : o = 0 ∧ sp = none := by
    rcases ho1.2 with ⟨h, _⟩ | ⟨g, cap, cur, h, _⟩
    · cases h
    · cases h; exact ⟨rfl, rfl⟩
  have hcell := ownsRow_cell ho1 (u8s_at (b := b) (k := p / 8) (by omega))
  have hfr := ownsRow_frozen ho1 (p / 8)
  have hd := bts_at hb (p / 8)
  have hgb := (ho1.lt g rfl)
  have HS := Lib.hid (ownsRow_set ho1 (j := p / 8) (by rw [u8s_length]; omega) (.int .u8 ((b.getD (p / 8) 0 ^^^ 2 ^ (p % 8) : Nat) : Int)))
  have HB1 := Lib.hid hb1
  have HG := Lib.hid hgb
  obtain ⟨d, hdd⟩ : ∃ d, d = b.getD (p / 8) 0 := ⟨_, rfl⟩
  rw [← hdd] at hcell hd HS
  obtain ⟨r, hr⟩ : ∃ r, r = p % 8 := ⟨_, rfl⟩
  have hr8 : r < 8 := by omega
  obtain ⟨q, hq⟩ : ∃ q, q = p / 8 := ⟨_, rfl⟩
  have hq8 : q < b.length := by omega
  rw [← hr, ← hq] at HS
  rw [← hq] at hcell hfr
  have j1 : (p : Int).tdiv 8 = (q : Int) := by rw [Int.tdiv_eq_ediv_of_nonneg (by omega)]; omega
  have j2 : (p : Int).tmod 8 = (r : Int) := by rw [Int.tmod_eq_emod_of_nonneg (by omega)]; omega
  clear ho1 ho1' hb1 hgb hn1
  have j3 : (p : Int) / 8 = (q : Int) := by omega
  have j4 : (p : Int) % 8 = (r : Int) := by omega
  have j5 : (0 : Int) ≤ (q : Int) := by omega
  have j6 : (q : Int) < (b.length : Int) := by omega
  have ex : bits .xor .u8 (d : Int) (((2 ^ r : Nat)) : Int) = ((d ^^^ 2 ^ r : Nat) : Int) := u8_xor_nat d (2 ^ r) hd (by
    have : r = 0 ∨ r = 1 ∨ r = 2 ∨ r = 3 ∨ r = 4 ∨ r = 5 ∨ r = 6 ∨ r = 7 := by omega
    rcases this with rfl | rfl | rfl | rfl | rfl | rfl | rfl | rfl <;> decide)
  obtain ⟨y, hy⟩ : ∃ y, y = d ^^^ 2 ^ r := ⟨_, rfl⟩
  rw [← hy] at ex HS
  have HY := Lib.hid hy
  have HR2 := Lib.hid hr
  have HQ2 := Lib.hid hq
  have HD2 := Lib.hid hdd
  clear hy hr hq hdd e5
  go_wp2_with fail
  clear e4 e3
  have j7 : IntKind.i64.wrap (q : Int) = (q : Int) := wrapGo (by omega)
  have fin : ∀ u : Int, u = (y : Int) → Own (w1.drew.setCell ⟨g, q, none⟩ (.int .u8 u)) (.slice (some ⟨g, 0, none⟩) b.length c1) (turnb b p) := by
    rintro u rfl
    have h2 : (w1.drew.setCell ⟨g, q, none⟩ (.int .u8 (y : Int))).ownsRow w.heap.size 5 1 (.slice (some ⟨g, 0, none⟩) b.length c1) b.length ((u8s b).set q (.int .u8 (y : Int))) := HS.out
    have ht : turnb b p = b.set q y := by unfold turnb; rw [HY.out, HR2.out, HQ2.out, HD2.out, ← HQ2.out]
    have hl : (b.set q y).length = b.length := List.length_set ..
    rw [u8s_set] at h2
    rw [ht]
    have h3 := Own.of_owns (b := b.set q y) (by rw [hl]; exact h2) (by rw [← hl]; intro e; cases e)
    exact h3
  have FIN := Lib.hid fin
  clear fin
  have hk : ∀ u, Below w.heap.size w (w1.drew.setCell ⟨g, q, none⟩ u) := fun u => (below_drewN HB1.out 1).setCell HG.out.1 _
  have HK := Lib.hid hk
  clear hk
  have ex0 := ex
  clear ex
  rcases (by omega : r = 0 ∨ r = 1 ∨ r = 2 ∨ r = 3 ∨ r = 4 ∨ r = 5 ∨ r = 6 ∨ r = 7) with rfl | rfl | rfl | rfl | rfl | rfl | rfl | rfl
  · have ex : bits .xor .u8 (d : Int) 1 = (y : Int) := ex0
    have EX := Lib.hid ex
    clear ex0 ex
    go_region
    go_wp2
    go_ret
    exact ⟨_, rfl, FIN.out _ EX.out, fun g' hg' => by cases hg'; exact HG.out.1, HK.out _⟩
  · have ex : bits .xor .u8 (d : Int) 2 = (y : Int) := ex0
    have EX := Lib.hid ex
    clear ex0 ex
    go_region
    go_wp2
    go_ret
    exact ⟨_, rfl, FIN.out _ EX.out, fun g' hg' => by cases hg'; exact HG.out.1, HK.out _⟩
  · have ex : bits .xor .u8 (d : Int) 4 = (y : Int) := ex0
    have EX := Lib.hid ex
    clear ex0 ex
    go_region
    go_wp2
    go_ret
    exact ⟨_, rfl, FIN.out _ EX.out, fun g' hg' => by cases hg'; exact HG.out.1, HK.out _⟩
  · have ex : bits .xor .u8 (d : Int) 8 = (y : Int) := ex0
    have EX := Lib.hid ex
    clear ex0 ex
    go_region
    go_wp2
    go_ret
    exact ⟨_, rfl, FIN.out _ EX.out, fun g' hg' => by cases hg'; exact HG.out.1, HK.out _⟩
  · have ex : bits .xor .u8 (d : Int) 16 = (y : Int) := ex0
    have EX := Lib.hid ex
    clear ex0 ex
    go_region
    go_wp2
    go_ret
    exact ⟨_, rfl, FIN.out _ EX.out, fun g' hg' => by cases hg'; exact HG.out.1, HK.out _⟩
  · have ex : bits .xor .u8 (d : Int) 32 = (y : Int) := ex0
    have EX := Lib.hid ex
    clear ex0 ex
    go_region
    go_wp2
    go_ret
    exact ⟨_, rfl, FIN.out _ EX.out, fun g' hg' => by cases hg'; exact HG.out.1, HK.out _⟩
  · have ex : bits .xor .u8 (d : Int) 64 = (y : Int) := ex0
    have EX := Lib.hid ex
    clear ex0 ex
    go_region
    go_wp2
    go_ret
    exact ⟨_, rfl, FIN.out _ EX.out, fun g' hg' => by cases hg'; exact HG.out.1, HK.out _⟩
  · have ex : bits .xor .u8 (d : Int) 128 = (y : Int) := ex0
    have EX := Lib.hid ex
    clear ex0 ex
    go_region
    go_wp2
    go_ret
    exact ⟨_, rfl, FIN.out _ EX.out, fun g' hg' => by cases hg'; exact HG.out.1, HK.out _⟩
end Go.Proofs.Ytkencaebmgiakaa
