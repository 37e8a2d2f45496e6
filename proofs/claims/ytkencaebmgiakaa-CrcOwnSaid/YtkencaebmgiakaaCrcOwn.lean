/- CrcOwn: what is handed in is not changed; what is told is new memory. -/
import Derived.Test.YtkencaebmgiakaaCrcTurns
import Derived.Laws.MakeOwn
namespace Go.Proofs.Ytkencaebmgiakaa
open Go.RowKit
set_option linter.unusedVariables false
set_option linter.unusedSimpArgs false

/-- n bytes at the head of a block, whatever they are -/
def Byt (w : World) (g n : Nat) : Prop := ∀ i, i < n → (∃ x : Int, 0 ≤ x ∧ x < 256 ∧ w.cell? ⟨g, i, none⟩ = some (.int .u8 x)) ∧ w.frozen? ⟨g, i, none⟩ = false
theorem Own.byt {w : World} {g n c : Nat} {b : List Nat} (h : Own w (.slice (some ⟨g, 0, none⟩) n c) b) (hb : Bts b) : n = b.length ∧ Byt w g n := by
  obtain ⟨g', c', he, -, -, -, h1, h2⟩ := h
  cases he
  exact ⟨rfl, fun i hi => ⟨⟨_, by omega, by have := bts_at hb i; omega, h1 i hi⟩, h2 i hi⟩⟩
theorem Byt.set {w : World} {g n : Nat} (h : Byt w g n) {k : Nat} (hk : k < n) {y : Int} (h0 : 0 ≤ y) (h1 : y < 256) : Byt (w.setCell ⟨g, k, none⟩ (.int .u8 y)) g n := by
  intro i hi
  refine ⟨?_, by rw [World.frozen?_setCell]; exact (h i hi).2⟩
  by_cases e : i = k
  · subst e
    obtain ⟨x, -, -, hx⟩ := (h i hi).1
    exact ⟨y, h0, h1, World.cell?_setCell_same _ _ _ hx⟩
  · obtain ⟨x, x0, x1, hx⟩ := (h i hi).1
    exact ⟨x, x0, x1, (World.cell?_setCell_other _ _ _ _ (by intro h; cases h; exact e rfl)).trans hx⟩
theorem own_front {w : World} {g n m c : Nat} {a l : List Nat} (h : Own w (.slice (some ⟨g, 0, none⟩) (n + m) c) (a ++ l)) (hn : a.length = n) (hm : l.length = m) (h0 : 0 < m) : Own w (.slice (some ⟨g, 0, none⟩) n c) a := by
  obtain ⟨g', c', he, hg, hc, hcm, h1, h2⟩ := h
  rw [List.length_append] at he hg hc h1 h2
  subst hn
  subst hm
  cases he
  refine ⟨g, c, rfl, fun _ => hg (by omega), by omega, hcm, fun i hi => ?_, fun i hi => h2 i (by omega)⟩
  rw [h1 i (by omega)]
  simp [List.getD_eq_getElem?_getD, List.getElem?_append_left hi]

theorem owns_some {w : World} {base : Nat} {e : TypeId} {size n c : Nat} {A : Option Addr} {xs : List Value} (h : w.ownsRow base e size (.slice A n c) n xs) (hA : A ≠ none) : (∃ g, A = some ⟨g, 0, none⟩) ∧ n ≤ c := by
  rcases h.2 with ⟨hv, _⟩ | ⟨g, cap, cur, hv, hg, hh, h1, h2⟩
  · cases hv; exact absurd rfl hA
  · cases hv; exact ⟨⟨g, rfl⟩, h1⟩

set_option maxRecDepth 100000 in
theorem turn_empty (A : Option Addr) (c : Nat) (bit : Int) (w : World) (h : Reads w 1 (.slice A 0 c) 0 []) :
    Calls Try.prog 14 #[.slice A 0 c, .int .i64 bit] w fun e w' => ∃ A' c', e = .returned (.slice A' 0 c') ∧ Below w.heap.size w w' := by
  have H := Lib.hid h
  clear h
  go_enter Try.func14, Try.ntmps14
  go_wp2_with fail
  refine (clone_bytes _ 0 [] _ H.out (by omega) (by simp)).mono ?_
  rintro e w1 ⟨A1, c1, rfl, -, hb1, -⟩
  go_wp2
  go_ret
  exact ⟨_, _, rfl, hb1⟩

/-- Turn, of any bytes: something new -/
theorem turn_new (A : Option Addr) (c : Nat) (b : List Nat) (bit : Int) (w : World) (h : Reads w 1 (.slice A b.length c) b.length (u8s b)) (hb : Bts b) (hn : b.length ≤ 10000000) (hbit : -9223372036854775808 ≤ bit ∧ bit ≤ 9223372036854775807) :
    Calls Try.prog 14 #[.slice A b.length c, .int .i64 bit] w fun e w' => ∃ A' c', e = .returned (.slice A' b.length c') ∧ (0 < b.length → ∃ g, A' = some ⟨g, 0, none⟩ ∧ Byt w' g b.length ∧ w.heap.size ≤ g ∧ g < w'.heap.size) ∧ Below w.heap.size w w' := by
  by_cases h0 : 0 < b.length
  · refine (turn_any _ b bit w h hb hn h0 hbit).mono ?_
    rintro e w' ⟨v', rfl, ho, hg, hbl⟩
    have ho' := ho
    obtain ⟨g, c', rfl, hlt, -⟩ := ho
    rw [turnb_len] at *
    exact ⟨_, _, rfl, fun _ => ⟨g, rfl, (Own.byt ho' (bts_turnb hb _)).2, hg g rfl, hlt h0⟩, hbl⟩
  · obtain rfl : b = [] := List.eq_nil_of_length_eq_zero (by omega)
    refine (turn_empty A c bit w h).mono ?_
    rintro e w' ⟨A', c', rfl, hbl⟩
    exact ⟨A', c', rfl, fun h => absurd h h0, hbl⟩

set_option maxRecDepth 100000 in
theorem crcOwn_long (v : Value) (a : List Nat) (bit : Int) (w : World) (h1 : Reads w 1 v a.length (u8s a)) (hg : 500 < a.length) :
    Calls Try.prog 6 #[v, .int .i64 bit] w fun e w' => e = .returned (.bool true) ∧ Below w.heap.size w w' := by
  obtain ⟨A, c, rfl, -⟩ := h1.val
  clear h1
  go_enter Try.func6, Try.ntmps6
  go_wp2_with fail
  refine (awake_any _).mono ?_
  rintro e w1 ⟨rfl, hb1⟩
  go_wp2
  go_ret
  exact ⟨rfl, hb1⟩

set_option maxRecDepth 100000 in
set_option maxHeartbeats 400000 in
theorem crcOwn_short (v : Value) (a : List Nat) (bit : Int) (w : World) (h1 : Reads w 1 v a.length (u8s a)) (ha : Bts a) (g1 : a.length ≤ 500) (hbit : -9223372036854775808 ≤ bit ∧ bit ≤ 9223372036854775807) :
    Calls Try.prog 6 #[v, .int .i64 bit] w fun e w' => e = .returned (.bool true) ∧ Below w.heap.size w w' := by
  obtain ⟨i0, hi, hz0, hz1, hz2⟩ := info_parts info_bytes
  have hmk : (Instr.makeSlice 22 (.int .i64 0) (.int .i64 ((a.length : Int) + 20))).run Try.prog w = .ok (.slice (some ⟨w.heap.size, 0, none⟩) 0 (a.length + 20)) (w.alloc (.cells (madeCells (Value.int .u8 0).cells ((a.length + 20) * 1)) 5)) := by
    have h := run_make (P := Try.prog) w 22 5 i0 (.int .u8 0) Try.underlying22 hi hz0 .i64 .i64 0 ((a.length : Int) + 20) (by omega) (by omega) (by rw [hz2]; omega) (by omega)
    rw [hz1] at h
    have e : ((a.length : Int) + 20).toNat = a.length + 20 := by omega
    rw [e] at h
    exact h
  have hmo := World.ownsRow_made w (base := w.heap.size) (e := 5) (size := 1) (madeCells (Value.int .u8 0).cells ((a.length + 20) * 1)) (a.length + 20) (Nat.le_refl _) (by unfold maxLen; omega) (size_madeCells _ _)
  generalize madeCells (Value.int .u8 0).cells ((a.length + 20) * 1) = MC at *
  obtain ⟨s, hs⟩ : ∃ s, s = cseal a := ⟨_, rfl⟩
  have hseal := fun v w h1 => seal_any v a w h1 ha (by omega)
  rw [← hs] at hseal
  have hopen := fun v w h => open_sealed v a w h ha (by omega)
  rw [← hs] at hopen
  have HL4 : Hid (s.length = a.length + 4) := by rw [hs]; exact cseal_len a
  have HBS : Hid (Bts s) := by rw [hs]; exact bts_cseal ha
  have hm4 : s.length ≤ 504 := by have := HL4.out; omega
  have hm5 : 4 ≤ s.length := by have := HL4.out; omega
  have HSE := Lib.hid hseal
  have HOP := Lib.hid hopen
  clear hs hseal hopen
  have HMO := Lib.hid hmo
  have H1 := Lib.hid h1
  obtain ⟨A, c, rfl, -⟩ := h1.val
  clear h1 hmo
  go_enter Try.func6, Try.ntmps6
  go_wp2_with (at_builtin; first
      | (refine wpList_appR rfl _ _ 22 rfl w.heap.size 5 i0 (.int .u8 0) 1 1 Try.underlying22 hi hz0 hz1 hz2 rfl (.slice (some ⟨w.heap.size, 0, none⟩) 0 (a.length + 20)) 0 [] rfl HMO.out _ a.length (u8s a) rfl (H1.out.alloc _) (u8s_one _) (by unfold maxLen; omega) (by omega) (by simp) ?_; rintro A2 c2 w2 hown2 hk2 hg2 -; rw [Nat.zero_add] at hown2; simp only [Nat.zero_add] at hg2; have HO2 := Lib.hid hown2; have HS2 : Hid (w.heap.size ≤ w2.heap.size) := Nat.le_trans (by simp) hk2.size; have HK2 := Lib.hid hk2; have HG2 := Lib.hid hg2; clear hown2 hk2 hg2)
      | (refine wpList_app1 rfl _ _ 22 rfl w.heap.size 5 i0 (.int .u8 0) 1 1 Try.underlying22 hi hz0 hz1 hz2 rfl (.slice A2 a.length c2) a.length _ rfl HO2.out #[.int .u8 7, .int .u8 7, .int .u8 7, .int .u8 7, .int .u8 7, .int .u8 7] 6 rfl rfl (by intro u hu; simp at hu; subst hu; rfl) (by omega) (by omega) HS2.out ?_; rintro A3 c3 w3 hown3 hk3 hg3 hn3; obtain ⟨⟨g3, rfl⟩, hle3⟩ := owns_some hown3 (fun h => absurd (hn3 h).2 (by decide)); have HO3 := Lib.hid hown3; have HK3 := Lib.hid hk3; have HG3 := Lib.hid hg3; have hc3 : (a.length : Int) ≤ (c3 : Int) := (by omega); clear hown3 hk3 hg3 hn3 hle3))
  have hR3 : Own w3 (.slice (some ⟨g3, 0, none⟩) (a.length + 6) c3) (a ++ [7, 7, 7, 7, 7, 7]) := Own.of_owns (b := a ++ [7, 7, 7, 7, 7, 7]) (base := w.heap.size) (by
    have := HO3.out
    rw [List.length_append, show u8s (a ++ [7, 7, 7, 7, 7, 7]) = [] ++ u8s a ++ [.int .u8 7, .int .u8 7, .int .u8 7, .int .u8 7, .int .u8 7, .int .u8 7] by simp [u8s]]
    exact this) (by intro h; cases h)
  have q2 : Below w.heap.size w w2 := ((Below.refl _ w).alloc (Nat.le_refl _) _).trans (HK2.out.below (fun k hk => by cases hk; exact Nat.le_refl _) (by simp))
  have q3 : Below w.heap.size w w3 := q2.trans (HK3.out.below (fun k hk => by
    rcases HG2.out k hk with h | h
    · cases h; exact Nat.le_refl _
    · exact Nat.le_trans (by simp) h) q2.size)
  have HQ3 := Lib.hid q3
  have HF3 := Lib.hid (own_front hR3 rfl rfl (by decide))
  have HR3 := Lib.hid hR3
  clear q2 q3 hR3
  refine (HSE.out _ _ HF3.out.reads).mono ?_
  rintro e w4 ⟨v4, rfl, ho4, hv4, hb4⟩
  have HO4 := Lib.hid ho4
  obtain ⟨g4, c4, rfl, hg4, -⟩ := ho4
  have HG4 := Lib.hid (show w3.heap.size ≤ g4 ∧ g4 < w4.heap.size from ⟨hv4 g4 rfl, hg4 (by omega)⟩)
  have HF4 := Lib.hid (HF3.out.below hb4)
  have HR4 := Lib.hid (HR3.out.below hb4)
  have HB4 := Lib.hid (HQ3.out.trans (hb4.mono HQ3.out.size))
  clear hv4 hb4 hg4
  go_wp2_with fail
  refine (turn_new _ _ a bit _ HF4.out.reads ha (by omega) hbit).mono ?_
  rintro e w5 ⟨A5, c5, rfl, h5, hb5⟩
  have HA5 := Lib.hid h5
  have HO5 := Lib.hid (HO4.out.below hb5)
  have HF5 := Lib.hid (HF4.out.below hb5)
  have HR5 := Lib.hid (HR4.out.below hb5)
  have HS5 := Lib.hid hb5.size
  have HB5 := Lib.hid (HB4.out.trans (hb5.mono HB4.out.size))
  clear h5 hb5
  go_wp2_with fail
  refine (HOP.out _ _ HO5.out.reads).mono ?_
  rintro e w6 ⟨A6, c6, rfl, ho6, -, hb6⟩
  have HP6 := Lib.hid (Reads.of_owns ho6)
  have HPG : Hid (∀ g, (Value.slice A6 a.length c6).ownBlock = some g → 0 < a.length → w5.heap.size ≤ g) := by
    intro g hg h0
    rcases ho6.2 with ⟨hv, _⟩ | ⟨g', cap, cur, hv, hg', _⟩
    · rw [hv] at hg; cases hg
    · rw [hv] at hg; cases hg; exact hg'
  have HY6 := Lib.hid (Own.byt (HO5.out.below hb6) HBS.out).2
  have HZ6 : Hid (0 < a.length → ∃ g, A5 = some ⟨g, 0, none⟩ ∧ Byt w6 g a.length ∧ w4.heap.size ≤ g ∧ g < w5.heap.size) := fun h0 => by
    obtain ⟨g, e1, e2, e3, e4⟩ := HA5.out h0
    exact ⟨g, e1, fun i hi => by
      obtain ⟨⟨x, x0, x1, hx⟩, hf⟩ := e2 i hi
      exact ⟨⟨x, x0, x1, ((Keep.none hb6).cell (p := ⟨g, i, none⟩) e4 id).trans hx⟩, ((Keep.none hb6).frozen (p := ⟨g, i, none⟩) e4 id).trans hf⟩, e3, e4⟩
  have HF6 := Lib.hid (HF5.out.below hb6)
  have HR6 := Lib.hid (HR5.out.below hb6)
  have HB6 := Lib.hid (HB5.out.trans (hb6.mono HB5.out.size))
  have HS6 := Lib.hid hb6.size
  have hgl : g3 < w3.heap.size := by
    obtain ⟨g, c, he, h, -⟩ := HR3.out
    have := congrArg Value.ownBlock he
    simp [Value.ownBlock] at this
    subst this
    exact h (by simp)
  have HGL := Lib.hid hgl
  clear ho6 hb6 hgl
  go_wp2_with fail
  go_loopw [43] (fun i wr => ∃ k : Nat, k ≤ s.length ∧ i = .int .i64 k ∧ Hid (Byt wr g4 s.length) ∧ Hid (Keep (fun b => b = g4) w6 wr)) (fun i _ => s.length - (intOf i).toNat)
  case atStart => exact ⟨0, by omega, rfl, HY6, Keep.refl _ _⟩
  case round =>
    obtain ⟨k, hk, rfl, HY, HK⟩ := hrel
    by_cases hlt : k < s.length
    · obtain ⟨⟨x, x0, x1, hx⟩, hf⟩ := HY.out k hlt
      have i1 : (0 : Int) ≤ (k : Int) := by omega
      have i2 : (k : Int) < (s.length : Int) := by omega
      go_wp2
      go_roundw
      case rel => exact ⟨k + 1, by omega, by go_num, HY.out.set hlt (by omega) (by omega), HK.out.setCell (.inl rfl) _⟩
      case measure => simp [intOf]; omega
    · obtain rfl : k = s.length := by omega
      have HZ : Hid (0 < a.length → ∃ g, A5 = some ⟨g, 0, none⟩ ∧ Byt wr g a.length ∧ w4.heap.size ≤ g ∧ g < w5.heap.size) := fun h0 => by
        obtain ⟨g, e1, e2, e3, e4⟩ := HZ6.out h0
        have hlt : g < w6.heap.size := Nat.lt_of_lt_of_le e4 HS6.out
        have hne : ¬ g = g4 := by have := HG4.out.2; omega
        exact ⟨g, e1, fun i hi => by
          obtain ⟨⟨x, x0, x1, hx⟩, hf⟩ := e2 i hi
          exact ⟨⟨x, x0, x1, (HK.out.cell (p := ⟨g, i, none⟩) hlt hne).trans hx⟩, (HK.out.frozen (p := ⟨g, i, none⟩) hlt hne).trans hf⟩, e3, e4⟩
      have HK2' : Hid (Keep (fun b => w3.heap.size ≤ b ∧ b < w5.heap.size) w6 wr) := HK.out.mono (fun b _ e => by
        subst e; exact ⟨HG4.out.1, Nat.lt_of_lt_of_le HG4.out.2 HS5.out⟩)
      have HW4 : Hid (w3.heap.size ≤ w4.heap.size) := Nat.le_of_lt (Nat.lt_of_le_of_lt HG4.out.1 HG4.out.2)
      obtain ⟨w0, rfl⟩ : ∃ w0 : World, w0 = wr := ⟨_, rfl⟩
      go_wp2_with fail
      go_loopw [55] (fun i wr => ∃ k : Nat, k ≤ a.length ∧ i = .int .i64 k ∧ Hid (0 < a.length → ∃ g, A5 = some ⟨g, 0, none⟩ ∧ Byt wr g a.length ∧ w4.heap.size ≤ g ∧ g < w5.heap.size) ∧ Hid (Keep (fun b => w3.heap.size ≤ b ∧ b < w5.heap.size) w6 wr)) (fun i _ => a.length - (intOf i).toNat)
      case atStart => exact ⟨0, by omega, rfl, HZ, HK2'⟩
      case round =>
        obtain ⟨k, hk, rfl, HZ7, HK7⟩ := hrel
        by_cases hlt : k < a.length
        · obtain ⟨g, rfl, hby, e3, e4⟩ := HZ7.out (by omega)
          obtain ⟨⟨x, x0, x1, hx⟩, hf⟩ := hby k hlt
          have HBY := Lib.hid hby
          have HS7 : Hid (w3.heap.size ≤ g ∧ g < w5.heap.size) := ⟨Nat.le_trans HW4.out e3, e4⟩
          have i1 : (0 : Int) ≤ (k : Int) := by omega
          have i2 : (k : Int) < (a.length : Int) := by omega
          clear hby
          go_wp2
          go_roundw
          case rel => exact ⟨k + 1, by omega, by go_num, fun _ => ⟨g, rfl, HBY.out.set hlt (by omega) (by omega), e3, e4⟩, HK7.out.setCell (.inl HS7.out) _⟩
          case measure => simp [intOf]; omega
        · obtain rfl : k = a.length := by omega
          have HB7 : Hid (Below w.heap.size w wr) := HB6.out.trans (HK7.out.below (fun k hk => Nat.le_trans HQ3.out.size hk.1) HB6.out.size)
          have HP7 : Hid (Reads wr 1 (.slice A6 a.length c6) a.length (u8s a)) := HP6.out.keep HK7.out (fun g hg h0 h => by have := HPG.out g hg h0; omega)
          have HF7 : Hid (Own wr (.slice (some ⟨g3, 0, none⟩) a.length c3) a) := HF6.out.keep HK7.out (fun g hg h => by cases hg; exact absurd (show w3.heap.size ≤ g3 from h.1) (Nat.not_le.2 HGL.out))
          have HR7 : Hid (Own wr (.slice (some ⟨g3, 0, none⟩) (a.length + 6) c3) (a ++ [7, 7, 7, 7, 7, 7])) := HR6.out.keep HK7.out (fun g hg h => by cases hg; exact absurd (show w3.heap.size ≤ g3 from h.1) (Nat.not_le.2 HGL.out))
          have HA7 : Hid (Reads wr 1 (.slice A a.length c) a.length (u8s a)) := (H1.out.below HB6.out).keep HK7.out (fun g hg h0 h => by have := H1.out.lt g hg h0; have := HQ3.out.size; omega)
          have d1 := conv_str HP7.out
          have d2 := conv_str HF7.out.reads
          have d3 := conv_str HA7.out
          have hbq : ((bstr a).toList == (bstr a).toList) = true := beq_self_eq_true _
          have hbn : ((bstr a).toList != (bstr a).toList) = false := by simp
          have i3 : ¬ (c3 = a.length) := by
            obtain ⟨g, c, he, -, h, -⟩ := HR7.out
            rw [List.length_append] at he h
            injection he with _ _ he
            subst he
            simp at h
            omega
          have h7 : ∀ k, k < 6 → wr.cell? ⟨g3, a.length + k, none⟩ = some (.int .u8 7) := by
            obtain ⟨g, c, he, -, -, -, h, -⟩ := HR7.out
            have e := congrArg Value.ownBlock he
            simp [Value.ownBlock] at e
            subst e
            intro k hk
            rw [h (a.length + k) (by simp; omega)]
            rcases (by omega : k = 0 ∨ k = 1 ∨ k = 2 ∨ k = 3 ∨ k = 4 ∨ k = 5) with rfl | rfl | rfl | rfl | rfl | rfl <;> simp [List.getD_eq_getElem?_getD]
          have H7 := Lib.hid h7
          clear h7
          obtain ⟨w0, rfl⟩ : ∃ w0 : World, w0 = wr := ⟨_, rfl⟩
          go_wp2_with fail
          clear d1 d2 d3 hbq hbn
          go_loopw [82] (fun i wr => ∃ k : Nat, k ≤ 6 ∧ i = .int .i64 k ∧ wr = w0) (fun i _ => 6 - (intOf i).toNat)
          case atStart => exact ⟨0, by omega, rfl, rfl⟩
          case round =>
            obtain ⟨k, hk, rfl, rfl⟩ := hrel
            by_cases hlt : k < 6
            · have h8 := H7.out k hlt
              have i1 : (0 : Int) ≤ (k : Int) := by omega
              have i2 : (k : Int) < 6 := by omega
              go_wp2
              go_roundw
              case rel => exact ⟨k + 1, by omega, by go_num, by first | rfl | trivial⟩
              case measure => simp [intOf]; omega
            · obtain rfl : k = 6 := by omega
              go_wp2_with fail
              refine (awake_any _).mono ?_
              rintro e w9 ⟨rfl, hb9⟩
              have HB9 := Lib.hid (HB7.out.trans (hb9.mono HB7.out.size))
              clear hb9
              go_wp2
              go_ret
              exact ⟨rfl, HB9.out⟩
theorem crcOwn_any (v : Value) (a : List Nat) (bit : Int) (w : World) (h1 : Reads w 1 v a.length (u8s a)) (ha : Bts a) (hbit : -9223372036854775808 ≤ bit ∧ bit ≤ 9223372036854775807) :
    Calls Try.prog 6 #[v, .int .i64 bit] w fun e w' => e = .returned (.bool true) ∧ Below w.heap.size w w' := by
  by_cases g : 500 < a.length
  · exact crcOwn_long v a bit w h1 g
  · exact crcOwn_short v a bit w h1 ha (by omega) hbit
end Go.Proofs.Ytkencaebmgiakaa
