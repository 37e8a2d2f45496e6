/- crc: Turn, over lists of bytes as integers. -/
import Derived.Test.YtlodiibmofeikaaPipe
import Derived.Test.YtlodiibmofeikaaCloneByte
import Derived.Laws.BitsAllLaws
import Derived.Deep.RegionHeld3
import Derived.Deep.RegionLaw
import Derived.Deep.DrawnRows
namespace Go.Proofs.Ytlodiibmofeikaa
open Go.RowKit
set_option linter.unusedVariables false
set_option linter.unusedSimpArgs false

/-- the bit that is meant -/
def tbit (n : Nat) (bit : Int) : Nat := ((bit.tmod (8 * n) + 8 * n).tmod (8 * n)).toNat
def turnI (b : List Int) (bit : Int) : List Int := b.set (tbit b.length bit / 8) ((((b.getD (tbit b.length bit / 8) 0).toNat ^^^ 2 ^ (tbit b.length bit % 8) : Nat)) : Int)
theorem turnI_len (b : List Int) (bit : Int) : (turnI b bit).length = b.length := List.length_set ..
theorem tmod_lt {x n : Int} (hn : 0 < n) : -n < x.tmod n ∧ x.tmod n < n := ⟨by have := Int.tmod_lt_of_pos (-x) hn; rw [Int.neg_tmod] at this; omega, Int.tmod_lt_of_pos x hn⟩
theorem tbit_eq {n : Nat} (bit : Int) (hn : 0 < n) : (bit.tmod (8 * (n : Int)) + 8 * (n : Int)).tmod (8 * (n : Int)) = (tbit n bit : Int) ∧ tbit n bit < 8 * n := by
  have h1 := tmod_lt (x := bit) (n := 8 * (n : Int)) (by omega)
  have h2 : 0 ≤ (bit.tmod (8 * (n : Int)) + 8 * (n : Int)).tmod (8 * (n : Int)) := Int.tmod_nonneg _ (by omega)
  have h3 := Int.tmod_lt_of_pos (bit.tmod (8 * (n : Int)) + 8 * (n : Int)) (b := 8 * (n : Int)) (by omega)
  unfold tbit
  omega
def BtsI (b : List Int) : Prop := ∀ x ∈ b, 0 ≤ x ∧ x < 256
theorem btsI_at {b : List Int} (h : BtsI b) (k : Nat) : 0 ≤ b.getD k 0 ∧ b.getD k 0 < 256 := by
  rw [List.getD_eq_getElem?_getD]
  cases e : b[k]? with
  | none => simp
  | some x => exact h x (List.mem_of_getElem? e)
theorem u8s_setI (b : List Int) (i : Nat) (c : Int) : (u8s b).set i (.int .u8 c) = u8s (b.set i c) := by unfold u8s; rw [List.map_set]
theorem u8s_oneI (b : List Int) : ∀ u ∈ u8s b, u.oneCell' = true := by
  intro u hu
  unfold u8s at hu
  obtain ⟨x, -, rfl⟩ := List.mem_map.1 hu
  rfl
theorem xor256 {x r : Nat} (hx : x < 256) (hr : r < 8) : x ^^^ 2 ^ r < 256 := Nat.xor_lt_two_pow (n := 8) hx (by
  rcases (by omega : r = 0 ∨ r = 1 ∨ r = 2 ∨ r = 3 ∨ r = 4 ∨ r = 5 ∨ r = 6 ∨ r = 7) with rfl | rfl | rfl | rfl | rfl | rfl | rfl | rfl <;> decide)
theorem xorI_ne {x r : Nat} : x ^^^ 2 ^ r ≠ x := by
  intro h
  have h2 : x ^^^ (x ^^^ 2 ^ r) = x ^^^ x := by rw [h]
  rw [← Nat.xor_assoc, Nat.xor_self, Nat.zero_xor] at h2
  have := Nat.two_pow_pos r
  omega
theorem turnI_ne {b : List Int} (hb : BtsI b) (bit : Int) (h0 : b ≠ []) : turnI b bit ≠ b := by
  intro h
  have hl : 0 < b.length := List.length_pos_iff.2 h0
  have ht := (tbit_eq bit hl).2
  have hq : tbit b.length bit / 8 < b.length := by omega
  have hx := btsI_at hb (tbit b.length bit / 8)
  have h2 := congrArg (fun l : List Int => l.getD (tbit b.length bit / 8) 0) h
  replace h2 : (turnI b bit).getD (tbit b.length bit / 8) 0 = b.getD (tbit b.length bit / 8) 0 := h2
  have h3 : (turnI b bit).getD (tbit b.length bit / 8) 0 = ((((b.getD (tbit b.length bit / 8) 0).toNat ^^^ 2 ^ (tbit b.length bit % 8) : Nat)) : Int) := by
    rw [List.getD_eq_getElem?_getD]
    unfold turnI
    rw [List.getElem?_set_self hq]
    rfl
  rw [h3] at h2
  have h4 : (b.getD (tbit b.length bit / 8) 0).toNat ^^^ 2 ^ (tbit b.length bit % 8) = (b.getD (tbit b.length bit / 8) 0).toNat := by omega
  exact xorI_ne h4
theorem turnI_bts {b : List Int} (hb : BtsI b) (bit : Int) : BtsI (turnI b bit) := by
  intro x hx
  unfold turnI at hx
  rcases List.mem_or_eq_of_mem_set hx with h | rfl
  · exact hb x h
  · have h1 := btsI_at hb (tbit b.length bit / 8)
    have := xor256 (x := (b.getD (tbit b.length bit / 8) 0).toNat) (r := tbit b.length bit % 8) (by omega) (by omega)
    omega
theorem turnI_nil (bit : Int) : turnI [] bit = [] := rfl

set_option maxRecDepth 100000 in
theorem turn_nil (A : Option Addr) (c : Nat) (bit : Int) (w : World) (h : Reads w 1 (.slice A 0 c) 0 []) :
    Calls Try.prog 44 #[.slice A 0 c, .int .i64 bit] w fun e w' => ∃ A c, e = .returned (.slice A 0 c) ∧ w'.ownsRow w.heap.size 5 1 (.slice A 0 c) 0 [] ∧ Below w.heap.size w w' := by
  have HR := Lib.hid h
  clear h
  go_enter Try.func44, Try.ntmps44
  go_wp2_with fail
  refine (clone_byte _ 0 [] _ HR.out (by omega) (by simp)).mono ?_
  rintro e w1 ⟨A1, c1, rfl, ho, hb1, -⟩
  have HO := Lib.hid ho
  clear ho
  go_wp2
  go_ret
  exact ⟨_, _, rfl, HO.out, hb1⟩
set_option maxRecDepth 100000 in
set_option maxHeartbeats 1000000 in
theorem turn_pos (A : Option Addr) (c : Nat) (b : List Int) (bit : Int) (w : World) (h : Reads w 1 (.slice A b.length c) b.length (u8s b)) (hb : BtsI b) (hn : b.length ≤ 10000000) (h0 : 0 < b.length) :
    Calls Try.prog 44 #[.slice A b.length c, .int .i64 bit] w fun e w' => ∃ A c, e = .returned (.slice A b.length c) ∧ w'.ownsRow w.heap.size 5 1 (.slice A b.length c) b.length (u8s (turnI b bit)) ∧ Below w.heap.size w w' := by
  have e1 : IntKind.i64.wrap (8 * (b.length : Int)) = 8 * (b.length : Int) := IntWalk.i64_in _ (by omega)
  have e2 : (0 : Int) < 8 * (b.length : Int) := by omega
  have hm := tmod_lt (x := bit) e2
  have e3 : IntKind.i64.wrap (bit.tmod (8 * (b.length : Int)) + 8 * (b.length : Int)) = bit.tmod (8 * (b.length : Int)) + 8 * (b.length : Int) := IntWalk.i64_in _ (by omega)
  obtain ⟨e4, e5⟩ := tbit_eq bit h0
  obtain ⟨t, ht⟩ : ∃ t, t = turnI b bit := ⟨_, rfl⟩
  have HT : Hid (t = b.set (tbit b.length bit / 8) ((((b.getD (tbit b.length bit / 8) 0).toNat ^^^ 2 ^ (tbit b.length bit % 8) : Nat)) : Int)) := ht
  rw [← ht]
  obtain ⟨p, hp⟩ : ∃ p, p = tbit b.length bit := ⟨_, rfl⟩
  rw [← hp] at e4 e5 HT
  clear hm hp ht
  have HR := Lib.hid h
  clear h
  go_enter Try.func44, Try.ntmps44
  go_wp2_with fail
  refine (clone_byte _ b.length (u8s b) _ HR.out (by omega) (u8s_oneI _)).mono ?_
  rintro e w1 ⟨A1, c1, rfl, ho1, hb1, hn1⟩
  cases A1 with
  | none => exact absurd (ho1.2) (by rintro (⟨h, h'⟩ | ⟨g, cap, cur, h, _⟩) <;> simp_all)
  | some a1 =>
  have ho1' := ho1
  obtain ⟨g, o, sp⟩ := a1
  obtain ⟨rfl, rfl⟩ : o = 0 ∧ sp = none := by
    rcases ho1.2 with ⟨h, _⟩ | ⟨g, cap, cur, h, _⟩
    · cases h
    · cases h; exact ⟨rfl, rfl⟩
  have hpq : p / 8 < b.length := by omega
  have hcell := ownsRow_cell ho1 (show (u8s b)[p / 8]? = some (.int .u8 (b.getD (p / 8) 0)) by unfold u8s; rw [List.getElem?_map, List.getD_eq_getElem?_getD, List.getElem?_eq_getElem hpq]; rfl)
  have hfr := ownsRow_frozen ho1 (p / 8)
  have hd := btsI_at hb (p / 8)
  have hgb := (ho1.lt g rfl)
  obtain ⟨d, hdd⟩ : ∃ d, d = b.getD (p / 8) 0 := ⟨_, rfl⟩
  rw [← hdd] at hcell hd HT
  obtain ⟨r, hr⟩ : ∃ r, r = p % 8 := ⟨_, rfl⟩
  have hr8 : r < 8 := by omega
  obtain ⟨q, hq⟩ : ∃ q, q = p / 8 := ⟨_, rfl⟩
  have hq8 : q < b.length := by omega
  rw [← hr, ← hq] at HT
  rw [← hq] at hcell hfr
  obtain ⟨y, hy⟩ : ∃ y, y = d.toNat ^^^ 2 ^ r := ⟨_, rfl⟩
  rw [← hy] at HT
  have HS := Lib.hid (ownsRow_set ho1 (j := q) (by unfold u8s; rw [List.length_map]; omega) (.int .u8 (y : Int)))
  have HB1 := Lib.hid hb1
  have HG := Lib.hid hgb
  have j1 : (p : Int).tdiv 8 = (q : Int) := by rw [Int.tdiv_eq_ediv_of_nonneg (by omega)]; omega
  have j2 : (p : Int).tmod 8 = (r : Int) := by rw [Int.tmod_eq_emod_of_nonneg (by omega)]; omega
  clear ho1 ho1' hb1 hgb hn1
  have j3 : (p : Int) / 8 = (q : Int) := by omega
  have j4 : (p : Int) % 8 = (r : Int) := by omega
  have j5 : (0 : Int) ≤ (q : Int) := by omega
  have j6 : (q : Int) < (b.length : Int) := by omega
  have ex : bits .xor .u8 d (((2 ^ r : Nat)) : Int) = (y : Int) := by
    have h1 := u8_xor_nat d.toNat (2 ^ r) (by omega) (by
      rcases (by omega : r = 0 ∨ r = 1 ∨ r = 2 ∨ r = 3 ∨ r = 4 ∨ r = 5 ∨ r = 6 ∨ r = 7) with rfl | rfl | rfl | rfl | rfl | rfl | rfl | rfl <;> decide)
    rw [show ((d.toNat : Nat) : Int) = d by omega] at h1
    rw [hy]
    exact h1
  clear hy hr hq hdd e5 hb
  go_wp2_with fail
  clear e4 e3
  have j7 : IntKind.i64.wrap (q : Int) = (q : Int) := IntWalk.i64_in _ (by omega)
  have fin : ∀ u : Int, u = (y : Int) → (w1.drew.setCell ⟨g, q, none⟩ (.int .u8 u)).ownsRow w.heap.size 5 1 (.slice (some ⟨g, 0, none⟩) b.length c1) b.length (u8s t) := by
    rintro u rfl
    have h2 : (w1.drew.setCell ⟨g, q, none⟩ (.int .u8 (y : Int))).ownsRow w.heap.size 5 1 (.slice (some ⟨g, 0, none⟩) b.length c1) b.length ((u8s b).set q (.int .u8 (y : Int))) := HS.out
    rw [u8s_setI] at h2
    rw [HT.out]
    exact h2
  have FIN := Lib.hid fin
  clear fin
  have hk : ∀ u, Below w.heap.size w (w1.drew.setCell ⟨g, q, none⟩ u) := fun u => (below_drewN HB1.out 1).setCell HG.out.1 _
  have HK := Lib.hid hk
  clear hk
  have ex0 := ex
  clear ex
  rcases (by omega : r = 0 ∨ r = 1 ∨ r = 2 ∨ r = 3 ∨ r = 4 ∨ r = 5 ∨ r = 6 ∨ r = 7) with rfl | rfl | rfl | rfl | rfl | rfl | rfl | rfl
  · have ex : bits .xor .u8 d 1 = (y : Int) := ex0
    have EX := Lib.hid ex
    clear ex0 ex
    go_region
    go_wp2
    go_ret
    exact ⟨_, _, rfl, FIN.out _ EX.out, HK.out _⟩
  · have ex : bits .xor .u8 d 2 = (y : Int) := ex0
    have EX := Lib.hid ex
    clear ex0 ex
    go_region
    go_wp2
    go_ret
    exact ⟨_, _, rfl, FIN.out _ EX.out, HK.out _⟩
  · have ex : bits .xor .u8 d 4 = (y : Int) := ex0
    have EX := Lib.hid ex
    clear ex0 ex
    go_region
    go_wp2
    go_ret
    exact ⟨_, _, rfl, FIN.out _ EX.out, HK.out _⟩
  · have ex : bits .xor .u8 d 8 = (y : Int) := ex0
    have EX := Lib.hid ex
    clear ex0 ex
    go_region
    go_wp2
    go_ret
    exact ⟨_, _, rfl, FIN.out _ EX.out, HK.out _⟩
  · have ex : bits .xor .u8 d 16 = (y : Int) := ex0
    have EX := Lib.hid ex
    clear ex0 ex
    go_region
    go_wp2
    go_ret
    exact ⟨_, _, rfl, FIN.out _ EX.out, HK.out _⟩
  · have ex : bits .xor .u8 d 32 = (y : Int) := ex0
    have EX := Lib.hid ex
    clear ex0 ex
    go_region
    go_wp2
    go_ret
    exact ⟨_, _, rfl, FIN.out _ EX.out, HK.out _⟩
  · have ex : bits .xor .u8 d 64 = (y : Int) := ex0
    have EX := Lib.hid ex
    clear ex0 ex
    go_region
    go_wp2
    go_ret
    exact ⟨_, _, rfl, FIN.out _ EX.out, HK.out _⟩
  · have ex : bits .xor .u8 d 128 = (y : Int) := ex0
    have EX := Lib.hid ex
    clear ex0 ex
    go_region
    go_wp2
    go_ret
    exact ⟨_, _, rfl, FIN.out _ EX.out, HK.out _⟩
theorem turn_any (A : Option Addr) (c : Nat) (b : List Int) (bit : Int) (w : World) (h : Reads w 1 (.slice A b.length c) b.length (u8s b)) (hb : BtsI b) (hn : b.length ≤ 10000000) :
    Calls Try.prog 44 #[.slice A b.length c, .int .i64 bit] w fun e w' => ∃ A c, e = .returned (.slice A b.length c) ∧ w'.ownsRow w.heap.size 5 1 (.slice A b.length c) b.length (u8s (turnI b bit)) ∧ Below w.heap.size w w' := by
  rcases Nat.eq_zero_or_pos b.length with h0 | h0
  · obtain rfl : b = [] := List.eq_nil_of_length_eq_zero h0
    exact turn_nil A c bit w h
  · exact turn_pos A c b bit w h hb hn h0
end Go.Proofs.Ytlodiibmofeikaa
