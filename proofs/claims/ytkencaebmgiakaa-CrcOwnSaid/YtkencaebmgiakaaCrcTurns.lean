/- CrcTurns: sealed bytes of which one bit is turned are opened never. -/
import Derived.Test.YtkencaebmgiakaaCrcTurn
import Derived.Test.YtkencaebmgiakaaCrcAwake
import Derived.Lib.MinMax
namespace Go.Proofs.Ytkencaebmgiakaa
open Go.RowKit
set_option linter.unusedVariables false
set_option linter.unusedSimpArgs false

theorem turnb_len (b : List Nat) (p : Nat) : (turnb b p).length = b.length := List.length_set ..
theorem pow8 {r : Nat} (h : r < 8) : 2 ^ r < 256 ∧ 0 < 2 ^ r := by
  rcases (by omega : r = 0 ∨ r = 1 ∨ r = 2 ∨ r = 3 ∨ r = 4 ∨ r = 5 ∨ r = 6 ∨ r = 7) with rfl | rfl | rfl | rfl | rfl | rfl | rfl | rfl <;> decide
theorem bts_turnb {b : List Nat} (hb : Bts b) (p : Nat) : Bts (turnb b p) := by
  intro c hc
  rcases List.mem_or_eq_of_mem_set hc with h | h
  · exact hb c h
  · subst h; exact xor_lt8 (bts_at hb _) (pow8 (Nat.mod_lt _ (by decide))).1
theorem turnb_twice {b : List Nat} {p : Nat} (hp : p < 8 * b.length) : turnb (turnb b p) p = b := by
  have hi : p / 8 < b.length := by omega
  unfold turnb
  rw [List.set_set]
  have e : (b.set (p / 8) (b.getD (p / 8) 0 ^^^ 2 ^ (p % 8))).getD (p / 8) 0 = b.getD (p / 8) 0 ^^^ 2 ^ (p % 8) := by simp [hi]
  rw [e, Nat.xor_assoc, Nat.xor_self, Nat.xor_zero]
  simp [hi]
theorem xor_ne {x r : Nat} (hr : r < 8) : x ^^^ 2 ^ r ≠ x := by
  intro h
  have h2 := congrArg (fun z => x ^^^ z) h
  simp only [← Nat.xor_assoc, Nat.xor_self, Nat.zero_xor] at h2
  have := (pow8 hr).2
  omega
theorem opn_turned (a : List Nat) (ha : Bts a) (p : Nat) (hp : p < 8 * (cseal a).length) : opn (turnb (cseal a) p) = false := by
  have hr : p % 8 < 8 := Nat.mod_lt _ (by decide)
  have hl := cseal_len a
  have hi : p / 8 < a.length + 4 := by omega
  simp only [opn, turnb_len, hl, Nat.add_sub_cancel, Bool.and_eq_false_iff, decide_eq_false_iff_not]
  right
  intro h
  unfold turnb at h
  by_cases h1 : p / 8 < a.length
  · have g : (cseal a).getD (p / 8) 0 = a.getD (p / 8) 0 := by
      unfold cseal; rw [List.getD_eq_getElem?_getD, List.getD_eq_getElem?_getD, List.getElem?_append_left h1]
    rw [g, List.take_set, List.drop_set_of_lt h1, cseal_take, cseal_drop] at h
    have h2 := cbytes_inj (csum_lt _) (csum_lt _) h
    have hx : a.set (p / 8) (a.getD (p / 8) 0) = a := by simp [h1]
    have hne := csum_ne (a.take (p / 8)) (a.drop (p / 8 + 1)) (a.getD (p / 8) 0 ^^^ 2 ^ (p % 8)) (a.getD (p / 8) 0) (bts_take ha _) (bts_drop ha _) (xor_lt8 (bts_at ha _) (pow8 hr).1) (bts_at ha _) (xor_ne hr)
    rw [List.set_eq_take_append_cons_drop, if_pos h1] at h2
    rw [List.set_eq_take_append_cons_drop, if_pos h1] at hx
    rw [hx] at hne
    exact hne h2
  · obtain ⟨j, hj⟩ : ∃ j, p / 8 = a.length + j := ⟨p / 8 - a.length, by omega⟩
    rw [hj, List.take_set, List.drop_set, cseal_take, cseal_drop, if_neg (by omega), List.set_eq_of_length_le (by omega)] at h
    rw [Nat.add_sub_cancel_left] at h
    have g : (cseal a).getD (a.length + j) 0 = (cbytes (csum a)).getD j 0 := by
      unfold cseal; rw [List.getD_eq_getElem?_getD, List.getD_eq_getElem?_getD, List.getElem?_append_right (by omega), Nat.add_sub_cancel_left]
    rw [g] at h
    have hj4 : j < (cbytes (csum a)).length := by rw [cbytes_len]; omega
    have h2 := congrArg (fun l => l.getD j 0) h
    simp [hj4] at h2
    have := xor_ne (x := (cbytes (csum a)).getD j 0) hr
    simp [hj4] at this
    exact this h2.symm

set_option maxRecDepth 100000 in
theorem turn_nil (bit : Int) (w : World) :
    Calls Try.prog 14 #[.slice none 0 0, .int .i64 bit] w fun e w' => ∃ A c, e = .returned (.slice A 0 c) ∧ Below w.heap.size w w' := by
  go_enter Try.func14, Try.ntmps14
  go_wp2_with fail
  refine (clone_bytes _ 0 [] _ (Reads.nil w 1) (by omega) (by simp)).mono ?_
  rintro e w1 ⟨A1, c1, rfl, -, hb1, -⟩
  go_wp2
  go_ret
  exact ⟨_, _, rfl, hb1⟩

set_option maxRecDepth 100000 in
theorem crcTurns_long (v : Value) (a : List Nat) (bit : Int) (w : World) (h1 : Reads w 1 v a.length (u8s a)) (hg : 1000 < a.length) :
    Calls Try.prog 5 #[v, .int .i64 bit] w fun e w' => e = .returned (.bool true) ∧ Below w.heap.size w w' := by
  obtain ⟨A, c, rfl, -⟩ := h1.val
  clear h1
  go_enter Try.func5, Try.ntmps5
  go_wp2_with fail
  refine (awake_any _).mono ?_
  rintro e w1 ⟨rfl, hb1⟩
  go_wp2
  go_ret
  exact ⟨rfl, hb1⟩

set_option maxRecDepth 100000 in
set_option maxHeartbeats 400000 in
theorem crcTurns_short (v : Value) (a : List Nat) (bit : Int) (w : World) (h1 : Reads w 1 v a.length (u8s a)) (ha : Bts a) (g1 : a.length ≤ 1000) (hbit : -9223372036854775808 ≤ bit ∧ bit ≤ 9223372036854775807) :
    Calls Try.prog 5 #[v, .int .i64 bit] w fun e w' => e = .returned (.bool true) ∧ Below w.heap.size w w' := by
  obtain ⟨s, hs⟩ : ∃ s, s = cseal a := ⟨_, rfl⟩
  have hsl : s.length = a.length + 4 := by rw [hs]; exact cseal_len a
  have hbs : Bts s := by rw [hs]; exact bts_cseal ha
  obtain ⟨p, hp⟩ : ∃ p, p = tbit s.length bit := ⟨_, rfl⟩
  have hp8 : p < 8 * s.length := by rw [hp]; exact (tbit_eq (n := s.length) bit (by omega)).2
  obtain ⟨t, ht⟩ : ∃ t, t = turnb s p := ⟨_, rfl⟩
  have htl : t.length = s.length := by rw [ht]; exact turnb_len s p
  have hbt : Bts t := by rw [ht]; exact bts_turnb hbs p
  have htw : turnb t p = s := by rw [ht]; exact turnb_twice hp8
  have hop : opn t = false := by rw [ht, hs]; rw [hs] at hp8; exact opn_turned a ha p hp8
  have hseal := seal_any v a w h1 ha (by omega)
  rw [← hs] at hseal
  have hturn : ∀ w v, Own w v s → Calls Try.prog 14 #[v, .int .i64 bit] w fun e w' => ∃ g c, e = .returned (.slice (some ⟨g, 0, none⟩) s.length c) ∧ Own w' (.slice (some ⟨g, 0, none⟩) s.length c) t ∧ w.heap.size ≤ g ∧ Below w.heap.size w w' := fun w v hv => by
    refine (turn_any v s bit w hv.reads hbs (by omega) (by omega) hbit).mono ?_
    rintro e w' ⟨v', rfl, ho, hg, hb⟩
    rw [← hp, ← ht] at ho
    have ho' := ho
    obtain ⟨g, c, rfl, -⟩ := ho
    rw [htl] at *
    exact ⟨g, c, rfl, ho', hg g rfl, hb⟩
  have hturn2 : ∀ w g c, Own w (.slice (some ⟨g, 0, none⟩) s.length c) t → Calls Try.prog 14 #[.slice (some ⟨g, 0, none⟩) s.length c, .int .i64 bit] w fun e w' => ∃ g5 c5, e = .returned (.slice (some ⟨g5, 0, none⟩) s.length c5) ∧ Own w' (.slice (some ⟨g5, 0, none⟩) s.length c5) s ∧ Below w.heap.size w w' := fun w g c hv => by
    have hr := hv.reads
    refine (turn_any _ t bit w hr hbt (by omega) (by omega) hbit).mono ?_
    rintro e w' ⟨v', rfl, ho, hg, hb⟩
    rw [htl, ← hp, htw] at ho
    have ho' := ho
    obtain ⟨g5, c5, rfl, -⟩ := ho
    exact ⟨g5, c5, rfl, ho', hb⟩
  have hopen : ∀ w g c, Own w (.slice (some ⟨g, 0, none⟩) s.length c) t → Calls Try.prog 12 #[.slice (some ⟨g, 0, none⟩) s.length c] w fun e w' => e = .returned (.tuple #[.slice none 0 0, .bool false]) ∧ Below w.heap.size w w' := fun w g c hv =>
    open_no _ t w hv.reads hbt (by omega) hop
  have hset : t = s.set (p / 8) (s.getD (p / 8) 0 ^^^ 2 ^ (p % 8)) := ht
  have H1 := Lib.hid h1
  have HSE := Lib.hid hseal
  have HT := Lib.hid hturn
  have HT2 := Lib.hid hturn2
  have HOP := Lib.hid hopen
  have HSET := Lib.hid hset
  have HBS := Lib.hid hbs
  have HTL := Lib.hid htl
  have hs5 : 4 ≤ s.length := by omega
  have hs6 : s.length ≤ 1004 := by omega
  obtain ⟨A, c, rfl, -⟩ := h1.val
  clear h1 hs hp ht htw hop hseal hturn hturn2 hopen hset hbs htl hsl ha hbt hbit
  go_enter Try.func5, Try.ntmps5
  go_wp2_with fail
  refine HSE.out.mono ?_
  rintro e w1 ⟨v3, rfl, ho1, hv1, hb1⟩
  have HO1 := Lib.hid ho1
  obtain ⟨g3, c3, rfl, -⟩ := ho1
  have HB1 := Lib.hid hb1
  clear hb1 hv1
  go_wp2_with fail
  refine (HT.out _ _ HO1.out).mono ?_
  rintro e w2 ⟨g4, c4, rfl, ho2, hg4, hb2⟩
  have HO2 := Lib.hid ho2
  have HO12 : Hid (Own w2 (.slice (some ⟨g3, 0, none⟩) s.length c3) s) := HO1.out.below hb2
  have HB2 : Hid (Below w.heap.size w w2) := HB1.out.trans (hb2.mono HB1.out.size)
  have hg43 : g3 ≠ g4 := by
    obtain ⟨g, c, he, h, -⟩ := HO1.out
    cases he
    have := h (by omega)
    omega
  clear hb2 ho2 hg4
  go_wp2_with fail
  refine (HOP.out _ _ _ HO2.out).mono ?_
  rintro e w3 ⟨rfl, hb3⟩
  have HO3 : Hid (Own w3 (.slice (some ⟨g4, 0, none⟩) s.length c4) t) := HO2.out.below hb3
  have HO13 : Hid (Own w3 (.slice (some ⟨g3, 0, none⟩) s.length c3) s) := HO12.out.below hb3
  have HB3 : Hid (Below w.heap.size w w3) := HB2.out.trans (hb3.mono HB2.out.size)
  clear hb3
  go_wp2_with fail
  obtain ⟨q, hq⟩ : ∃ q, q = p / 8 := ⟨_, rfl⟩
  obtain ⟨r, hr⟩ : ∃ r, r = p % 8 := ⟨_, rfl⟩
  have hr8 : r < 8 := by omega
  have hq8 : q < s.length := by omega
  have hsc : ∀ W, Keep (fun _ => False) w3 W → ∀ i, i < s.length → W.cell? ⟨g3, i, none⟩ = some (.int .u8 ((s.getD i 0 : Nat) : Int)) := by
    intro W hW
    obtain ⟨g, c, he, -, -, -, h, -⟩ := HO13.out.keep hW (fun _ _ => id)
    cases he
    exact h
  have htc : ∀ W, Keep (fun _ => False) w3 W → ∀ i, i < s.length → W.cell? ⟨g4, i, none⟩ = some (.int .u8 ((t.getD i 0 : Nat) : Int)) := by
    intro W hW
    obtain ⟨g, c, he, -, -, -, h, -⟩ := HO3.out.keep hW (fun _ _ => id)
    rw [HTL.out] at he h
    cases he
    exact h
  have hx : ∀ i, i < s.length → s.getD i 0 < 256 ∧ t.getD i 0 < 256 ∧ s.getD i 0 ^^^ t.getD i 0 = if i = q then 2 ^ r else 0 := by
    intro i hi
    have h1 := bts_at HBS.out i
    have h2 : t.getD i 0 = if i = q then s.getD q 0 ^^^ 2 ^ r else s.getD i 0 := by
      rw [HSET.out, ← hq, ← hr]
      by_cases e : i = q
      · subst e; simp [hi]
      · rw [List.getD_eq_getElem?_getD, List.getElem?_set_ne (fun h => e h.symm), ← List.getD_eq_getElem?_getD, if_neg e]
    have h3 : t.getD i 0 < 256 := by
      rw [h2]
      split
      · exact xor_lt8 (bts_at HBS.out q) (pow8 hr8).1
      · exact h1
    refine ⟨h1, h3, ?_⟩
    rw [h2]
    split
    · rename_i e; subst e; rw [← Nat.xor_assoc, Nat.xor_self, Nat.zero_xor]
    · exact Nat.xor_self _
  have HSC := Lib.hid hsc
  have HTC := Lib.hid htc
  have HX := Lib.hid hx
  clear hsc htc hx hq hr
  go_loopw [9, 31] (fun n i wr => ∃ k : Nat, k ≤ s.length ∧ i = .int .i64 k ∧ n = .int .i64 ((if q < k then 1 else 0 : Nat) : Int) ∧ Hid (Keep (fun _ => False) w3 wr)) (fun _ i _ => s.length - (intOf i).toNat)
  case atStart => exact ⟨0, by omega, rfl, by simp, Keep.refl _ _⟩
  case round =>
    obtain ⟨k, hk, rfl, rfl, HK⟩ := hrel
    by_cases hlt : k < s.length
    · have h1 := HSC.out _ HK.out k hlt
      have h2 := HTC.out _ HK.out k hlt
      obtain ⟨b1, b2, hx⟩ := HX.out k hlt
      obtain ⟨a1, ha1⟩ : ∃ a1, a1 = s.getD k 0 := ⟨_, rfl⟩
      obtain ⟨a2, ha2⟩ : ∃ a2, a2 = t.getD k 0 := ⟨_, rfl⟩
      rw [← ha1] at h1 b1 hx
      rw [← ha2] at h2 b2 hx
      clear ha1 ha2
      have ex : bits .xor .u8 (a1 : Int) (a2 : Int) = ((a1 ^^^ a2 : Nat) : Int) := u8_xor_nat a1 a2 b1 b2
      obtain ⟨y, hy⟩ : ∃ y, y = a1 ^^^ a2 := ⟨_, rfl⟩
      rw [← hy] at ex hx
      obtain ⟨n0, hn0⟩ : ∃ n0 : Nat, n0 = (if q < k then 1 else 0) := ⟨_, rfl⟩
      obtain ⟨n1, hn1⟩ : ∃ n1 : Nat, n1 = (if q < k + 1 then 1 else 0) := ⟨_, rfl⟩
      have hst : (y = 0 ∧ n0 = n1) ∨ ((∃ j, j < 8 ∧ y = 2 ^ j) ∧ n0 = 0 ∧ n1 = 1) := by
        by_cases e : k = q
        · right
          rw [if_pos e] at hx
          exact ⟨⟨r, hr8, hx⟩, by rw [hn0, if_neg (by omega)], by rw [hn1, if_pos (by omega)]⟩
        · left
          rw [if_neg e] at hx
          refine ⟨hx, ?_⟩
          rw [hn0, hn1]
          by_cases e2 : q < k
          · rw [if_pos e2, if_pos (by omega)]
          · rw [if_neg e2, if_neg (by omega)]
      have HN1 := Lib.hid hn1
      have HST := Lib.hid hst
      rw [← hn0]
      clear hx hy hn0 hn1 hst
      have i1 : (0 : Int) ≤ (k : Int) := by omega
      have i2 : (k : Int) < (s.length : Int) := by omega
      go_wp2_with fail
      go_quiet (fail)
      obtain ⟨m1, rfl⟩ : ∃ m, m = nq := ⟨_, rfl⟩
      go_wp2_with fail
      have HK0 : Hid (Keep (fun _ => False) w3 (wr.drewN m1)) := HK.out.drewN m1
      obtain ⟨w0, rfl⟩ : ∃ w0 : World, w0 = wr.drewN m1 := ⟨_, rfl⟩
      clear h1 h2 b1 b2 ex
      go_loopw [9, 11] (fun nv x wr => ∃ (y n : Nat), x = .int .u8 y ∧ nv = .int .i64 n ∧ ((y = 0 ∧ n = n1) ∨ ((∃ j, j < 8 ∧ y = 2 ^ j) ∧ n = 0 ∧ n1 = 1)) ∧ Hid (Keep (fun _ => False) w3 wr)) (fun _ x _ => (intOf x).toNat)
      case atStart => exact ⟨y, n0, rfl, rfl, HST.out, HK0⟩
      case round =>
        clear HST
        obtain ⟨y, n, rfl, rfl, hy, HK0⟩ := hrel
        rcases hy with ⟨rfl, rfl⟩ | ⟨⟨j, hj, rfl⟩, rfl, rfl⟩
        · go_wp2
          go_roundw
          case rel => exact ⟨k + 1, by omega, by go_num, by rw [HN1.out], HK0⟩
          case measure => simp [intOf]; omega
        · rcases (by omega : j = 0 ∨ j = 1 ∨ j = 2 ∨ j = 3 ∨ j = 4 ∨ j = 5 ∨ j = 6 ∨ j = 7) with rfl | rfl | rfl | rfl | rfl | rfl | rfl | rfl
          · go_wp2
            go_roundw
            case rel => exact ⟨0, 1, rfl, rfl, .inl ⟨rfl, rfl⟩, HK0⟩
            case measure => decide
          · go_wp2
            go_roundw
            case rel => exact ⟨1, 0, rfl, rfl, .inr ⟨⟨0, by omega, rfl⟩, by simp⟩, HK0⟩
            case measure => decide
          · go_wp2
            go_roundw
            case rel => exact ⟨2, 0, rfl, rfl, .inr ⟨⟨1, by omega, rfl⟩, by simp⟩, HK0⟩
            case measure => decide
          · go_wp2
            go_roundw
            case rel => exact ⟨4, 0, rfl, rfl, .inr ⟨⟨2, by omega, rfl⟩, by simp⟩, HK0⟩
            case measure => decide
          · go_wp2
            go_roundw
            case rel => exact ⟨8, 0, rfl, rfl, .inr ⟨⟨3, by omega, rfl⟩, by simp⟩, HK0⟩
            case measure => decide
          · go_wp2
            go_roundw
            case rel => exact ⟨16, 0, rfl, rfl, .inr ⟨⟨4, by omega, rfl⟩, by simp⟩, HK0⟩
            case measure => decide
          · go_wp2
            go_roundw
            case rel => exact ⟨32, 0, rfl, rfl, .inr ⟨⟨5, by omega, rfl⟩, by simp⟩, HK0⟩
            case measure => decide
          · go_wp2
            go_roundw
            case rel => exact ⟨64, 0, rfl, rfl, .inr ⟨⟨6, by omega, rfl⟩, by simp⟩, HK0⟩
            case measure => decide
    · obtain rfl : k = s.length := by omega
      rw [if_pos hq8, show (((1 : Nat)) : Int) = 1 from rfl]
      have HB4 : Hid (Below w3.heap.size w3 wr) := HK.out.below (fun _ h => h.elim) (Nat.le_refl _)
      have HO4 : Hid (Own wr (.slice (some ⟨g4, 0, none⟩) s.length c4) t) := HO3.out.keep HK.out (fun _ _ => id)
      have HO14 : Hid (Own wr (.slice (some ⟨g3, 0, none⟩) s.length c3) s) := HO13.out.keep HK.out (fun _ _ => id)
      have k1 : ∀ W, Own W (.slice (some ⟨g3, 0, none⟩) s.length c3) s → _ := fun W h => conv_str h.reads
      have K1 := Lib.hid k1
      have d0 := K1.out wr.drew (HO14.out.keep ((Keep.refl (fun _ => False) _).drew) (fun _ _ => id))
      have hbq : ((bstr s).toList == (bstr s).toList) = true := beq_self_eq_true _
      clear k1
      go_wp2_with fail
      refine wp_region_held_drew (S := (fun w' => (convert 22 9 (.slice (some ⟨g3, 0, none⟩) s.length c3)).run Try.prog w' = .ok (.string (bstr s)) w')) (by kernel_rfl) ?_ (fun hHeld => ?_)
      · (try dsimp only); (first | assumption | exact d4 | exact d3 | exact d1 | exact d0)
      refine wpAnyH_take (i := 0) (oi := { dst := some 53, op := Go.Op.move (Go.Operand.tmp 6), type := 22, pos := "law.go:57", after := #[], guard := none }) (v := ?_) rfl (by kernel_rfl) (by kernel_rfl) (by kernel_rfl) (fun _ _ _ h => h) (Or.inl ⟨by rfl, ?_⟩) (by assumption) ?_
      rotate_left 1
      · intro w hSw; (try dsimp only at hSw); go_simp <;> with_reducible rfl
      (try simp only [Act.put, List.setIfInBounds_toArray, List.set_cons_zero, List.set_cons_succ])
      refine wpAnyH_take (i := 1) (oi := { dst := some 54, op := Go.Op.call { callee := Go.Callee.builtin Go.Builtin.len, args := #[Go.Operand.tmp 53], argTypes := #[22] }, type := 3, pos := "law.go:57", after := #[{ on := 0, ground := Go.Ground.data }], guard := none }) (v := ?_) rfl (by kernel_rfl) (by kernel_rfl) (by kernel_rfl) (fun _ _ _ h => h) (Or.inl ⟨by rfl, ?_⟩) (by assumption) ?_
      rotate_left 1
      · intro w hSw; (try dsimp only at hSw); go_simp <;> with_reducible rfl
      (try simp only [Act.put, List.setIfInBounds_toArray, List.set_cons_zero, List.set_cons_succ])
      refine wpAnyH_take (i := 2) (oi := { dst := some 55, op := Go.Op.move (Go.Operand.tmp 5), type := 22, pos := "law.go:57", after := #[], guard := none }) (v := ?_) rfl (by kernel_rfl) (by kernel_rfl) (by kernel_rfl) (fun _ _ _ h => h) (Or.inl ⟨by rfl, ?_⟩) (by assumption) ?_
      rotate_left 1
      · intro w hSw; (try dsimp only at hSw); go_simp <;> with_reducible rfl
      (try simp only [Act.put, List.setIfInBounds_toArray, List.set_cons_zero, List.set_cons_succ])
      refine wpAnyH_take (i := 3) (oi := { dst := some 56, op := Go.Op.call { callee := Go.Callee.builtin Go.Builtin.len, args := #[Go.Operand.tmp 55], argTypes := #[22] }, type := 3, pos := "law.go:57", after := #[{ on := 2, ground := Go.Ground.data }], guard := none }) (v := ?_) rfl (by kernel_rfl) (by kernel_rfl) (by kernel_rfl) (fun _ _ _ h => h) (Or.inl ⟨by rfl, ?_⟩) (by assumption) ?_
      rotate_left 1
      · intro w hSw; (try dsimp only at hSw); go_simp <;> with_reducible rfl
      (try simp only [Act.put, List.setIfInBounds_toArray, List.set_cons_zero, List.set_cons_succ])
      refine wpAnyH_take (i := 4) (oi := { dst := some 57, op := Go.Op.binOp Go.BinOp.eql 3 (Go.Operand.tmp 54) (Go.Operand.tmp 56) 3, type := 4, pos := "law.go:57", after := #[{ on := 1, ground := Go.Ground.data }, { on := 3, ground := Go.Ground.data }], guard := none }) (v := ?_) rfl (by kernel_rfl) (by kernel_rfl) (by kernel_rfl) (fun _ _ _ h => h) (Or.inl ⟨by rfl, ?_⟩) (by assumption) ?_
      rotate_left 1
      · intro w hSw; (try dsimp only at hSw); go_simp <;> with_reducible rfl
      (try simp only [Act.put, List.setIfInBounds_toArray, List.set_cons_zero, List.set_cons_succ])
      refine wpAnyH_take (i := 5) (oi := { dst := some 58, op := Go.Op.move (Go.Operand.tmp 57), type := 4, pos := "law.go:57", after := #[{ on := 4, ground := Go.Ground.data }], guard := none }) (v := ?_) rfl (by kernel_rfl) (by kernel_rfl) (by kernel_rfl) (fun _ _ _ h => h) (Or.inl ⟨by rfl, ?_⟩) (by assumption) ?_
      rotate_left 1
      · intro w hSw; (try dsimp only at hSw); go_simp <;> with_reducible rfl
      (try simp only [Act.put, List.setIfInBounds_toArray, List.set_cons_zero, List.set_cons_succ])
      refine wpAnyH_take (i := 6) (oi := { dst := some 59, op := Go.Op.move (Go.Operand.tmp 9), type := 3, pos := "law.go:57", after := #[{ on := 5, ground := Go.Ground.guard }], guard := some (5, true) }) (v := ?_) rfl (by kernel_rfl) (by kernel_rfl) (by kernel_rfl) (fun _ _ _ h => h) (Or.inl ⟨by rfl, ?_⟩) (by assumption) ?_
      rotate_left 1
      · intro w hSw; (try dsimp only at hSw); go_simp <;> with_reducible rfl
      (try simp only [Act.put, List.setIfInBounds_toArray, List.set_cons_zero, List.set_cons_succ])
      refine wpAnyH_take (i := 7) (oi := { dst := some 60, op := Go.Op.binOp Go.BinOp.eql 3 (Go.Operand.tmp 59) (Go.Operand.const (Go.Value.int Go.IntKind.i64 1)) 3, type := 4, pos := "law.go:57", after := #[{ on := 6, ground := Go.Ground.data }, { on := 5, ground := Go.Ground.guard }], guard := some (5, true) }) (v := ?_) rfl (by kernel_rfl) (by kernel_rfl) (by kernel_rfl) (fun _ _ _ h => h) (Or.inl ⟨by rfl, ?_⟩) (by assumption) ?_
      rotate_left 1
      · intro w hSw; (try dsimp only at hSw); go_simp <;> with_reducible rfl
      (try simp only [Act.put, List.setIfInBounds_toArray, List.set_cons_zero, List.set_cons_succ])
      refine wpAnyH_take (i := 8) (oi := { dst := some 61, op := Go.Op.pick (Go.Operand.tmp 58) (Go.Operand.tmp 60) (Go.Operand.const (Go.Value.bool false)), type := 4, pos := "law.go:57", after := #[{ on := 5, ground := Go.Ground.data }, { on := 7, ground := Go.Ground.data }], guard := none }) (v := ?_) rfl (by kernel_rfl) (by kernel_rfl) (by kernel_rfl) (fun _ _ _ h => h) (Or.inl ⟨by rfl, ?_⟩) (by assumption) ?_
      rotate_left 1
      · intro w hSw; (try dsimp only at hSw); go_simp <;> with_reducible rfl
      (try simp only [Act.put, List.setIfInBounds_toArray, List.set_cons_zero, List.set_cons_succ])
      refine wpAnyH_take (i := 9) (oi := { dst := some 62, op := Go.Op.move (Go.Operand.tmp 61), type := 4, pos := "law.go:57", after := #[{ on := 8, ground := Go.Ground.data }, { on := 5, ground := Go.Ground.chain }], guard := none }) (v := ?_) rfl (by kernel_rfl) (by kernel_rfl) (by kernel_rfl) (fun _ _ _ h => h) (Or.inl ⟨by rfl, ?_⟩) (by assumption) ?_
      rotate_left 1
      · intro w hSw; (try dsimp only at hSw); go_simp <;> with_reducible rfl
      (try simp only [Act.put, List.setIfInBounds_toArray, List.set_cons_zero, List.set_cons_succ])
      refine wpAnyH_take (i := 10) (oi := { dst := some 63, op := Go.Op.move (Go.Operand.tmp 8), type := 4, pos := "law.go:57", after := #[{ on := 9, ground := Go.Ground.guard }], guard := some (9, true) }) (v := ?_) rfl (by kernel_rfl) (by kernel_rfl) (by kernel_rfl) (fun _ _ _ h => h) (Or.inl ⟨by rfl, ?_⟩) (by assumption) ?_
      rotate_left 1
      · intro w hSw; (try dsimp only at hSw); go_simp <;> with_reducible rfl
      (try simp only [Act.put, List.setIfInBounds_toArray, List.set_cons_zero, List.set_cons_succ])
      refine wpAnyH_take (i := 11) (oi := { dst := some 64, op := Go.Op.unOp Go.UnOp.not 4 (Go.Operand.tmp 63), type := 4, pos := "law.go:57", after := #[{ on := 10, ground := Go.Ground.data }, { on := 9, ground := Go.Ground.guard }], guard := some (9, true) }) (v := ?_) rfl (by kernel_rfl) (by kernel_rfl) (by kernel_rfl) (fun _ _ _ h => h) (Or.inl ⟨by rfl, ?_⟩) (by assumption) ?_
      rotate_left 1
      · intro w hSw; (try dsimp only at hSw); go_simp <;> with_reducible rfl
      (try simp only [Act.put, List.setIfInBounds_toArray, List.set_cons_zero, List.set_cons_succ])
      refine wpAnyH_take (i := 12) (oi := { dst := some 65, op := Go.Op.pick (Go.Operand.tmp 62) (Go.Operand.tmp 64) (Go.Operand.const (Go.Value.bool false)), type := 4, pos := "law.go:57", after := #[{ on := 9, ground := Go.Ground.data }, { on := 11, ground := Go.Ground.data }], guard := none }) (v := ?_) rfl (by kernel_rfl) (by kernel_rfl) (by kernel_rfl) (fun _ _ _ h => h) (Or.inl ⟨by rfl, ?_⟩) (by assumption) ?_
      rotate_left 1
      · intro w hSw; (try dsimp only at hSw); go_simp <;> with_reducible rfl
      (try simp only [Act.put, List.setIfInBounds_toArray, List.set_cons_zero, List.set_cons_succ])
      refine wpAnyH_take (i := 13) (oi := { dst := some 66, op := Go.Op.move (Go.Operand.tmp 65), type := 4, pos := "law.go:57", after := #[{ on := 12, ground := Go.Ground.data }, { on := 9, ground := Go.Ground.chain }], guard := none }) (v := ?_) rfl (by kernel_rfl) (by kernel_rfl) (by kernel_rfl) (fun _ _ _ h => h) (Or.inl ⟨by rfl, ?_⟩) (by assumption) ?_
      rotate_left 1
      · intro w hSw; (try dsimp only at hSw); go_simp <;> with_reducible rfl
      (try simp only [Act.put, List.setIfInBounds_toArray, List.set_cons_zero, List.set_cons_succ])
      refine wpAnyH_take (i := 14) (oi := { dst := some 67, op := Go.Op.move (Go.Operand.tmp 6), type := 22, pos := "law.go:57", after := #[{ on := 13, ground := Go.Ground.guard }], guard := some (13, true) }) (v := ?_) rfl (by kernel_rfl) (by kernel_rfl) (by kernel_rfl) (fun _ _ _ h => h) (Or.inl ⟨by rfl, ?_⟩) (by assumption) ?_
      rotate_left 1
      · intro w hSw; (try dsimp only at hSw); go_simp <;> with_reducible rfl
      (try simp only [Act.put, List.setIfInBounds_toArray, List.set_cons_zero, List.set_cons_succ])
      refine wpAnyH_take (i := 15) (oi := { dst := some 68, op := Go.Op.move (Go.Operand.tmp 1), type := 3, pos := "law.go:57", after := #[{ on := 13, ground := Go.Ground.guard }], guard := some (13, true) }) (v := ?_) rfl (by kernel_rfl) (by kernel_rfl) (by kernel_rfl) (fun _ _ _ h => h) (Or.inl ⟨by rfl, ?_⟩) (by assumption) ?_
      rotate_left 1
      · intro w hSw; (try dsimp only at hSw); go_simp <;> with_reducible rfl
      (try simp only [Act.put, List.setIfInBounds_toArray, List.set_cons_zero, List.set_cons_succ])
      refine wpAnyH_take (i := 18) (oi := { dst := some 71, op := Go.Op.move (Go.Operand.tmp 5), type := 22, pos := "law.go:57", after := #[{ on := 13, ground := Go.Ground.guard }], guard := some (13, true) }) (v := ?_) rfl (by kernel_rfl) (by kernel_rfl) (by kernel_rfl) (fun _ _ _ h => h) (Or.inl ⟨by rfl, ?_⟩) (by assumption) ?_
      rotate_left 1
      · intro w hSw; (try dsimp only at hSw); go_simp <;> with_reducible rfl
      (try simp only [Act.put, List.setIfInBounds_toArray, List.set_cons_zero, List.set_cons_succ])
      refine wpAnyH_take (i := 19) (oi := { dst := some 72, op := Go.Op.convert 22 9 (Go.Operand.tmp 71), type := 9, pos := "law.go:57", after := #[{ on := 18, ground := Go.Ground.data }, { on := 13, ground := Go.Ground.guard }], guard := some (13, true) }) (v := ?_) rfl (by kernel_rfl) (by kernel_rfl) (by kernel_rfl) (fun _ _ _ h => h) (Or.inl ⟨by rfl, ?_⟩) (by assumption) ?_
      rotate_left 1
      · intro w hSw; (try dsimp only at hSw); go_simp <;> with_reducible rfl
      (try simp only [Act.put, List.setIfInBounds_toArray, List.set_cons_zero, List.set_cons_succ])
      refine wpAnyH_ready (rs := [16]) (by kernel_rfl) (by simp) ?_
      refine AllReadyH.cons (o := { dst := some 69, op := Go.Op.call { callee := Go.Callee.value (Go.Operand.func 14), args := #[Go.Operand.tmp 67, Go.Operand.tmp 68], argTypes := #[22, 3] }, type := 22, pos := "law.go:57", after := #[{ on := 14, ground := Go.Ground.data }, { on := 15, ground := Go.Ground.data }, { on := 13, ground := Go.Ground.chain }, { on := 13, ground := Go.Ground.guard }], guard := some (13, true) }) rfl (fun K hK => ?_) AllReadyH.nil
      go_simp
      go_at_call 14
      refine (HT2.out _ g4 c4 (HO4.out.keep ((Keep.refl (fun _ => False) _).drew) (fun _ _ => id))).mono ?_
      rintro e w5 ⟨g5, c5, rfl, ho5, hb5⟩
      have HO15 := Lib.hid ((HO14.out.keep ((Keep.refl (fun _ => False) _).drew) (fun _ _ => id)).below hb5)
      have d1 := K1.out w5 HO15.out
      have d2 := conv_str ho5.reads
      have HB5 := Lib.hid hb5
      clear hb5 ho5
      go_wp2_with fail
      refine hK.out _ _ ?_ (fun hHeld => ?_)
      · (try dsimp only); (first | assumption | exact d4 | exact d3 | exact d1 | exact d0)
      clear hK K
      (try simp only [Act.put, List.setIfInBounds_toArray, List.set_cons_zero, List.set_cons_succ])
      refine wpAnyH_ready (rs := [17]) (by kernel_rfl) (by simp) ?_
      refine AllReadyH.cons (o := { dst := some 70, op := Go.Op.convert 22 9 (Go.Operand.tmp 69), type := 9, pos := "law.go:57", after := #[{ on := 16, ground := Go.Ground.data }, { on := 13, ground := Go.Ground.guard }], guard := some (13, true) }) rfl (fun K hK => ?_) AllReadyH.nil
      go_simp
      refine hK.out _ _ ?_ (fun hHeld => ?_)
      · (try dsimp only); (first | assumption | exact d4 | exact d3 | exact d1 | exact d0)
      clear hK K
      (try simp only [Act.put, List.setIfInBounds_toArray, List.set_cons_zero, List.set_cons_succ])
      refine wpAnyH_take (i := 20) (oi := { dst := some 73, op := Go.Op.binOp Go.BinOp.eql 9 (Go.Operand.tmp 70) (Go.Operand.tmp 72) 9, type := 4, pos := "law.go:57", after := #[{ on := 17, ground := Go.Ground.data }, { on := 19, ground := Go.Ground.data }, { on := 13, ground := Go.Ground.guard }], guard := some (13, true) }) (v := ?_) rfl (by kernel_rfl) (by kernel_rfl) (by kernel_rfl) (fun _ _ _ h => h) (Or.inl ⟨by rfl, ?_⟩) (by assumption) ?_
      rotate_left 1
      · intro w hSw; (try dsimp only at hSw); go_simp <;> with_reducible rfl
      (try simp only [Act.put, List.setIfInBounds_toArray, List.set_cons_zero, List.set_cons_succ])
      refine wpAnyH_take (i := 21) (oi := { dst := some 74, op := Go.Op.pick (Go.Operand.tmp 66) (Go.Operand.tmp 73) (Go.Operand.const (Go.Value.bool false)), type := 4, pos := "law.go:57", after := #[{ on := 13, ground := Go.Ground.data }, { on := 20, ground := Go.Ground.data }], guard := none }) (v := ?_) rfl (by kernel_rfl) (by kernel_rfl) (by kernel_rfl) (fun _ _ _ h => h) (Or.inl ⟨by rfl, ?_⟩) (by assumption) ?_
      rotate_left 1
      · intro w hSw; (try dsimp only at hSw); go_simp <;> with_reducible rfl
      (try simp only [Act.put, List.setIfInBounds_toArray, List.set_cons_zero, List.set_cons_succ])
      refine wpAnyH_take (i := 22) (oi := { dst := some 75, op := Go.Op.move (Go.Operand.tmp 74), type := 4, pos := "law.go:57", after := #[{ on := 21, ground := Go.Ground.data }, { on := 16, ground := Go.Ground.chain }], guard := none }) (v := ?_) rfl (by kernel_rfl) (by kernel_rfl) (by kernel_rfl) (fun _ _ _ h => h) (Or.inl ⟨by rfl, ?_⟩) (by assumption) ?_
      rotate_left 1
      · intro w hSw; (try dsimp only at hSw); go_simp <;> with_reducible rfl
      (try simp only [Act.put, List.setIfInBounds_toArray, List.set_cons_zero, List.set_cons_succ])
      refine wpAnyH_take (i := 23) (oi := { dst := some 76, op := Go.Op.move (Go.Operand.tmp 1), type := 3, pos := "law.go:57", after := #[{ on := 22, ground := Go.Ground.guard }], guard := some (22, true) }) (v := ?_) rfl (by kernel_rfl) (by kernel_rfl) (by kernel_rfl) (fun _ _ _ h => h) (Or.inl ⟨by rfl, ?_⟩) (by assumption) ?_
      rotate_left 1
      · intro w hSw; (try dsimp only at hSw); go_simp <;> with_reducible rfl
      (try simp only [Act.put, List.setIfInBounds_toArray, List.set_cons_zero, List.set_cons_succ])
      refine wpAnyH_ready (rs := [24]) (by kernel_rfl) (by simp) ?_
      refine AllReadyH.cons (o := { dst := some 77, op := Go.Op.call { callee := Go.Callee.value (Go.Operand.func 14), args := #[Go.Operand.const (Go.Value.slice none 0 0), Go.Operand.tmp 76], argTypes := #[22, 3] }, type := 22, pos := "law.go:57", after := #[{ on := 23, ground := Go.Ground.data }, { on := 22, ground := Go.Ground.chain }, { on := 22, ground := Go.Ground.guard }], guard := some (22, true) }) rfl (fun K hK => ?_) AllReadyH.nil
      go_simp
      go_at_call 14
      refine (turn_nil _ _).mono ?_
      rintro e w6 ⟨A6, c6, rfl, hb6⟩
      have HO16 := Lib.hid (HO15.out.below hb6)
      have d3 := K1.out w6 HO16.out
      have HB6 := Lib.hid hb6
      clear hb6
      go_wp2_with fail
      refine hK.out _ _ ?_ (fun hHeld => ?_)
      · (try dsimp only); (first | assumption | exact d4 | exact d3 | exact d1 | exact d0)
      clear hK K
      (try simp only [Act.put, List.setIfInBounds_toArray, List.set_cons_zero, List.set_cons_succ])
      refine wpAnyH_take (i := 25) (oi := { dst := some 78, op := Go.Op.call { callee := Go.Callee.builtin Go.Builtin.len, args := #[Go.Operand.tmp 77], argTypes := #[22] }, type := 3, pos := "law.go:57", after := #[{ on := 24, ground := Go.Ground.data }, { on := 22, ground := Go.Ground.guard }], guard := some (22, true) }) (v := ?_) rfl (by kernel_rfl) (by kernel_rfl) (by kernel_rfl) (fun _ _ _ h => h) (Or.inl ⟨by rfl, ?_⟩) (by assumption) ?_
      rotate_left 1
      · intro w hSw; (try dsimp only at hSw); go_simp <;> with_reducible rfl
      (try simp only [Act.put, List.setIfInBounds_toArray, List.set_cons_zero, List.set_cons_succ])
      refine wpAnyH_take (i := 26) (oi := { dst := some 79, op := Go.Op.binOp Go.BinOp.eql 3 (Go.Operand.tmp 78) (Go.Operand.const (Go.Value.int Go.IntKind.i64 0)) 3, type := 4, pos := "law.go:57", after := #[{ on := 25, ground := Go.Ground.data }, { on := 22, ground := Go.Ground.guard }], guard := some (22, true) }) (v := ?_) rfl (by kernel_rfl) (by kernel_rfl) (by kernel_rfl) (fun _ _ _ h => h) (Or.inl ⟨by rfl, ?_⟩) (by assumption) ?_
      rotate_left 1
      · intro w hSw; (try dsimp only at hSw); go_simp <;> with_reducible rfl
      (try simp only [Act.put, List.setIfInBounds_toArray, List.set_cons_zero, List.set_cons_succ])
      refine wpAnyH_take (i := 27) (oi := { dst := some 80, op := Go.Op.pick (Go.Operand.tmp 75) (Go.Operand.tmp 79) (Go.Operand.const (Go.Value.bool false)), type := 4, pos := "law.go:57", after := #[{ on := 22, ground := Go.Ground.data }, { on := 26, ground := Go.Ground.data }], guard := none }) (v := ?_) rfl (by kernel_rfl) (by kernel_rfl) (by kernel_rfl) (fun _ _ _ h => h) (Or.inl ⟨by rfl, ?_⟩) (by assumption) ?_
      rotate_left 1
      · intro w hSw; (try dsimp only at hSw); go_simp <;> with_reducible rfl
      (try simp only [Act.put, List.setIfInBounds_toArray, List.set_cons_zero, List.set_cons_succ])
      refine wpAnyH_take (i := 28) (oi := { dst := some 81, op := Go.Op.move (Go.Operand.tmp 80), type := 4, pos := "law.go:57", after := #[{ on := 27, ground := Go.Ground.data }, { on := 24, ground := Go.Ground.chain }], guard := none }) (v := ?_) rfl (by kernel_rfl) (by kernel_rfl) (by kernel_rfl) (fun _ _ _ h => h) (Or.inl ⟨by rfl, ?_⟩) (by assumption) ?_
      rotate_left 1
      · intro w hSw; (try dsimp only at hSw); go_simp <;> with_reducible rfl
      (try simp only [Act.put, List.setIfInBounds_toArray, List.set_cons_zero, List.set_cons_succ])
      refine wpAnyH_ready (rs := [29]) (by kernel_rfl) (by simp) ?_
      refine AllReadyH.cons (o := { dst := some 82, op := Go.Op.call { callee := Go.Callee.value (Go.Operand.func 7), args := #[], argTypes := #[] }, type := 4, pos := "law.go:57", after := #[{ on := 28, ground := Go.Ground.chain }, { on := 28, ground := Go.Ground.guard }], guard := some (28, true) }) rfl (fun K hK => ?_) AllReadyH.nil
      go_simp
      go_at_call 7
      refine (awake_any _).mono ?_
      rintro e w7 ⟨rfl, hb7⟩
      have d4 := K1.out w7 (HO16.out.below hb7)
      have HB7 := Lib.hid hb7
      clear hb7
      go_wp2_with fail
      refine hK.out _ _ ?_ (fun hHeld => ?_)
      · (try dsimp only); (first | assumption | exact d4 | exact d3 | exact d1 | exact d0)
      clear hK K
      (try simp only [Act.put, List.setIfInBounds_toArray, List.set_cons_zero, List.set_cons_succ])
      refine wpAnyH_take (i := 30) (oi := { dst := some 83, op := Go.Op.pick (Go.Operand.tmp 81) (Go.Operand.tmp 82) (Go.Operand.const (Go.Value.bool false)), type := 4, pos := "law.go:57", after := #[{ on := 28, ground := Go.Ground.data }, { on := 29, ground := Go.Ground.data }], guard := none }) (v := ?_) rfl (by kernel_rfl) (by kernel_rfl) (by kernel_rfl) (fun _ _ _ h => h) (Or.inl ⟨by rfl, ?_⟩) (by assumption) ?_
      rotate_left 1
      · intro w hSw; (try dsimp only at hSw); go_simp <;> with_reducible rfl
      (try simp only [Act.put, List.setIfInBounds_toArray, List.set_cons_zero, List.set_cons_succ])
      refine wpAnyH_take (i := 31) (oi := { dst := some 4, op := Go.Op.assign (Go.Operand.tmp 83), type := 4, pos := "law.go:57", after := #[{ on := 30, ground := Go.Ground.data }, { on := 29, ground := Go.Ground.chain }, { on := 0, ground := Go.Ground.phase }, { on := 1, ground := Go.Ground.phase }, { on := 2, ground := Go.Ground.phase }, { on := 3, ground := Go.Ground.phase }, { on := 4, ground := Go.Ground.phase }, { on := 5, ground := Go.Ground.phase }, { on := 6, ground := Go.Ground.phase }, { on := 7, ground := Go.Ground.phase }, { on := 8, ground := Go.Ground.phase }, { on := 9, ground := Go.Ground.phase }, { on := 10, ground := Go.Ground.phase }, { on := 11, ground := Go.Ground.phase }, { on := 12, ground := Go.Ground.phase }, { on := 13, ground := Go.Ground.phase }, { on := 14, ground := Go.Ground.phase }, { on := 15, ground := Go.Ground.phase }, { on := 16, ground := Go.Ground.phase }, { on := 17, ground := Go.Ground.phase }, { on := 18, ground := Go.Ground.phase }, { on := 19, ground := Go.Ground.phase }, { on := 20, ground := Go.Ground.phase }, { on := 21, ground := Go.Ground.phase }, { on := 22, ground := Go.Ground.phase }, { on := 23, ground := Go.Ground.phase }, { on := 24, ground := Go.Ground.phase }, { on := 25, ground := Go.Ground.phase }, { on := 26, ground := Go.Ground.phase }, { on := 27, ground := Go.Ground.phase }, { on := 28, ground := Go.Ground.phase }, { on := 29, ground := Go.Ground.phase }, { on := 30, ground := Go.Ground.phase }], guard := none }) (v := ?_) rfl (by kernel_rfl) (by kernel_rfl) (by kernel_rfl) (fun _ _ _ h => h) (Or.inl ⟨by rfl, ?_⟩) (by assumption) ?_
      rotate_left 1
      · intro w hSw; (try dsimp only at hSw); go_simp <;> with_reducible rfl
      (try simp only [Act.put, List.setIfInBounds_toArray, List.set_cons_zero, List.set_cons_succ])
      refine wpAnyH_done (by kernel_rfl) ?_ _
      have q5 : Below wr.heap.size wr w5 := ⟨HB5.out.os, HB5.out.tape, HB5.out.output, HB5.out.size, HB5.out.block⟩
      have q4 : Below w.heap.size w wr := HB3.out.trans (HB4.out.mono HB3.out.size)
      have q6 : Below w.heap.size w w5 := q4.trans (q5.mono q4.size)
      have q7 : Below w.heap.size w w6 := q6.trans (HB6.out.mono q6.size)
      have q8 : Below w.heap.size w w7 := q7.trans (HB7.out.mono q7.size)
      have HQ8 := Lib.hid q8
      clear d0 d1 d2 d3 d4 q4 q5 q6 q7 q8
      go_wp2
      go_ret
      exact ⟨rfl, HQ8.out⟩
theorem crcTurns_any (v : Value) (a : List Nat) (bit : Int) (w : World) (h1 : Reads w 1 v a.length (u8s a)) (ha : Bts a) (hbit : -9223372036854775808 ≤ bit ∧ bit ≤ 9223372036854775807) :
    Calls Try.prog 5 #[v, .int .i64 bit] w fun e w' => e = .returned (.bool true) ∧ Below w.heap.size w w' := by
  by_cases g : 1000 < a.length
  · exact crcTurns_long v a bit w h1 g
  · exact crcTurns_short v a bit w h1 ha (by omega) hbit
end Go.Proofs.Ytkencaebmgiakaa
