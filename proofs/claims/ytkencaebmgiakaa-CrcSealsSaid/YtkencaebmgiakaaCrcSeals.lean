/- CrcSeals: the document's Sealed; the law's walk. -/
import Derived.Test.YtkencaebmgiakaaCrcAwake
import Derived.Lib.MinMax
namespace Go.Proofs.Ytkencaebmgiakaa
open Go.RowKit
set_option linter.unusedVariables false
set_option linter.unusedSimpArgs false

theorem cb_take (x k : Nat) (hk : k < 4) : (cbytes x).take (k + 1) = (cbytes x).take k ++ [x / 256 ^ k % 256] := by
  rcases (by omega : k = 0 ∨ k = 1 ∨ k = 2 ∨ k = 3) with rfl | rfl | rfl | rfl
  · simp only [Nat.pow_zero, Nat.div_one]; rfl
  · rfl
  · rfl
  · rfl
theorem bstr_size (b : List Nat) : (bstr b).size = b.length := by
  show (bstr b).data.size = _
  rw [← Array.length_toList, bstr_data, List.length_map]

set_option maxRecDepth 100000 in
set_option maxHeartbeats 1000000 in
theorem refSealed_any (v : Value) (b : List Nat) (w : World) (h : Reads w 1 v b.length (u8s b)) (hb : Bts b) (hn : b.length ≤ 1000000) :
    Calls Try.prog 13 #[v] w fun e w' => e = .returned (.string (bstr (cseal b))) ∧ Below w.heap.size w w' := by
  have HR := Lib.hid h
  obtain ⟨A, c, rfl, -⟩ := h.val
  clear h
  obtain ⟨s, hs⟩ : ∃ s, s = csum b := ⟨_, rfl⟩
  have hs2 := csum_lt b
  rw [← hs] at hs2
  have HS := Lib.hid hs
  have kb := fun m => conv_str (HR.out.drewN m)
  go_enter Try.func13, Try.ntmps13
  go_wp2_with fail
  refine (refSum_any _ b _ HR.out hb).mono ?_
  rintro e w1 ⟨rfl, m, rfl⟩
  rw [← HS.out]
  clear hs
  go_wp2
  go_loopw [3, 4, 5] (fun x o i wr => ∃ k : Nat, k ≤ 4 ∧ i = .int .i64 k ∧ x = .int .u32 (s / 256 ^ k : Nat) ∧ o = .string (bstr (b ++ (cbytes s).take k)) ∧ Below w.heap.size w wr) (fun _ _ i _ => 4 - (intOf i).toNat)
  case atStart => exact ⟨0, by omega, rfl, by simp, by simp, below_drewN (Below.refl _ _) m⟩
  case round =>
    obtain ⟨k, hk, rfl, rfl, rfl, hb⟩ := hrel
    have hsz := hb.size
    by_cases hlt : k < 4
    · have HD := Lib.hid (cb_take s k hlt)
      have hd : s / 256 ^ (k + 1) = s / 256 ^ k / 256 := by rw [Nat.pow_succ, Nat.div_div_eq_div_mul]
      have HD2 := Lib.hid hd
      have hlt2 : s / 256 ^ k < 4294967296 := Nat.lt_of_le_of_lt (Nat.div_le_self _ _) hs2
      clear hd
      generalize s / 256 ^ k = x at *
      have rn : Reads (wr.alloc (.cells #[.int .u8 ((x : Int) % 256)] 5)) 1 (.slice (some ⟨wr.heap.size, 0, none⟩) 1 1) 1 (u8s [x % 256]) := Reads.new wr #[.int .u8 ((x : Int) % 256)] 5 1 1 rfl (by omega)
      have kn := conv_str rn
      have z1 : ((bstr (b ++ (cbytes s).take k)).size : Int) ≤ 8388608 := by rw [bstr_size, List.length_append, List.length_take, cbytes_len]; omega
      have z2 : ((bstr [x % 256]).size : Int) ≤ 8388608 := by rw [bstr_size]; simp
      have ka := fun w => run_string_add (P := Try.prog) (w := w) _ _ z1 z2
      clear rn z1 z2
      go_wp2
      go_roundw
      case rel => exact ⟨k + 1, by omega, by go_num, by rw [HD2.out]; go_num, by rw [HD.out, ← List.append_assoc, bstr_append (b ++ _)], hb.alloc hb.size _⟩
      case measure => simp [intOf]; omega
    · obtain rfl : k = 4 := by omega
      go_wp2
      go_ret
      exact ⟨by rw [HS.out]; rfl, hb⟩

set_option maxRecDepth 100000 in
set_option maxHeartbeats 2000000 in
theorem crcSeals_long (v1 v2 : Value) (a b : List Nat) (w : World) (h1 : Reads w 1 v1 a.length (u8s a)) (h2 : Reads w 1 v2 b.length (u8s b)) (hg : 1000 < a.length ∨ (a.length ≤ 1000 ∧ 1000 < b.length)) :
    Calls Try.prog 4 #[v1, v2] w fun e w' => e = .returned (.bool true) ∧ Below w.heap.size w w' := by
  obtain ⟨A, c, rfl, -⟩ := h1.val
  obtain ⟨A', c', rfl, -⟩ := h2.val
  clear h1 h2
  rcases hg with g | ⟨g, g2⟩
  all_goals
    go_enter Try.func4, Try.ntmps4
    go_wp2_with fail
    refine (awake_any _).mono ?_
    rintro e w1 ⟨rfl, hb1⟩
    go_wp2
    go_ret
    exact ⟨rfl, hb1⟩

set_option maxRecDepth 100000 in
set_option maxHeartbeats 2000000 in
theorem crcSeals_short (v1 v2 : Value) (a b : List Nat) (w : World) (h1 : Reads w 1 v1 a.length (u8s a)) (h2 : Reads w 1 v2 b.length (u8s b)) (ha : Bts a) (hb : Bts b) (g1 : a.length ≤ 1000) (g2 : b.length ≤ 1000) :
    Calls Try.prog 4 #[v1, v2] w fun e w' => e = .returned (.bool true) ∧ Below w.heap.size w w' := by
  have H1 := Lib.hid h1
  have H2 := Lib.hid h2
  obtain ⟨A, c, rfl, -⟩ := h1.val
  obtain ⟨A', c', rfl, -⟩ := h2.val
  clear h1 h2
  go_enter Try.func4, Try.ntmps4
  go_wp2_with fail
  refine (seal_any _ a _ H1.out ha (by omega)).mono ?_
  rintro e w1 ⟨v3, rfl, ho1, hv1, hb1⟩
  have HO1 := Lib.hid ho1
  obtain ⟨g3, c3, rfl, -⟩ := ho1
  have HB1 := Lib.hid hb1
  clear hb1 hv1
  go_wp2_with fail
  refine (open_sealed _ a _ HO1.out.reads ha (by omega)).mono ?_
  rintro e w2 ⟨A4, c4, rfl, ho2, -, hb2⟩
  have HP2 : Hid (Reads w2 1 (.slice A4 a.length c4) a.length (u8s a)) := Reads.of_owns ho2
  have HO2 : Hid (Own w2 (.slice (some ⟨g3, 0, none⟩) (cseal a).length c3) (cseal a)) := HO1.out.below hb2
  have HB2 : Hid (Below w.heap.size w w2) := HB1.out.trans (hb2.mono HB1.out.size)
  clear ho2 hb2
  go_wp2_with fail
  have k1 : ∀ W, Reads W 1 (.slice (some ⟨g3, 0, none⟩) (cseal a).length c3) (cseal a).length (u8s (cseal a)) → _ := fun W h => conv_str h
  have k2 : ∀ W, Reads W 1 (.slice A4 a.length c4) a.length (u8s a) → _ := fun W h => conv_str h
  have k3 : ∀ W, Reads W 1 (.slice A a.length c) a.length (u8s a) → _ := fun W h => conv_str h
  have K1 := Lib.hid k1
  have K2 := Lib.hid k2
  have K3 := Lib.hid k3
  clear k1 k2 k3
  have d1 := K1.out w2.drew (HO2.out.reads.drewN 1)
  have d2 := K2.out w2.drew (HP2.out.drewN 1)
  have d3 := K3.out w2.drew ((H1.out.below HB2.out).drewN 1)
  go_region_held3 (fun w' => (convert 22 9 (.slice (some ⟨g3, 0, none⟩) (cseal a).length c3)).run Try.prog w' = .ok (.string (bstr (cseal a))) w' ∧ (convert 22 9 (.slice A4 a.length c4)).run Try.prog w' = .ok (.string (bstr a)) w' ∧ (convert 22 9 (.slice A a.length c)).run Try.prog w' = .ok (.string (bstr a)) w') (first | assumption | exact ⟨d4, d5, d6⟩ | exact ⟨d1, d2, d3⟩)
    (first
      | (go_at_call 13; refine (refSealed_any _ a _ ((H1.out.below HB2.out).drewN 1) ha (by omega)).mono ?_; rintro e w5 ⟨rfl, hb5⟩; have d4 := K1.out w5 ((HO2.out.reads.drewN 1).below hb5); have d5 := K2.out w5 ((HP2.out.drewN 1).below hb5); have d6 := K3.out w5 (((H1.out.below HB2.out).drewN 1).below hb5); have HB5 := Lib.hid hb5; clear hb5))
  have q5 : Below w.heap.size w w5 := HB2.out.trans ((⟨HB5.out.os, HB5.out.tape, HB5.out.output, HB5.out.size, HB5.out.block⟩ : Below w2.heap.size w2 w5).mono HB2.out.size)
  have HQ5 := Lib.hid q5
  clear d1 d2 d3 d4 d5 d6 q5
  go_wp2_with fail
  by_cases hl4 : b.length < 4
  · refine (open_no _ b _ (H2.out.below HQ5.out) hb (by omega) (by simp [opn]; omega)).mono ?_
    rintro e w6 ⟨rfl, hb6⟩
    have HQ6 := Lib.hid (HQ5.out.trans (hb6.mono HQ5.out.size))
    clear hb6
    have i1 : decide ((4 : Int) ≤ (b.length : Int)) = false := decide_eq_false (by omega)
    go_wp2_with fail
    go_quiet (fail)
    obtain ⟨m1, rfl⟩ : ∃ m, m = nq := ⟨_, rfl⟩
    go_wp2_with fail
    go_quiet (fail)
    obtain ⟨m2, rfl⟩ : ∃ m, m = nq := ⟨_, rfl⟩
    go_wp2_with fail
    refine (awake_any _).mono ?_
    rintro e w9 ⟨rfl, hb9⟩
    have HB9 := Lib.hid ((below_drewN HQ6.out (m1 + m2)).trans (hb9.mono (below_drewN HQ6.out (m1 + m2)).size))
    clear hb9
    go_wp2
    go_ret
    exact ⟨rfl, HB9.out⟩
  obtain ⟨B, o, c2, he, -⟩ := H2.out.at 0 _ (u8s_at (by omega))
  cases he
  obtain ⟨m, hm⟩ : ∃ m, b.length = m + 4 := ⟨b.length - 4, by omega⟩
  rw [hm] at H2 g2 ⊢
  have HM := Lib.hid hm
  clear hm hl4
  have kb : ∀ W, Reads W 1 (.slice (some ⟨B, o, none⟩) (m + 4) c') (m + 4) (u8s b) → _ := fun W h => conv_str h
  have KB := Lib.hid kb
  have hsd := fun W (h : Reads W 1 (.slice (some ⟨B, o, none⟩) m c') m (u8s (b.take m))) => refSealed_any _ (b.take m) W (by rw [List.length_take, HM.out, Nat.min_eq_left (by omega)]; exact h) (bts_take hb m) (by rw [List.length_take, HM.out]; omega)
  have HSd := Lib.hid hsd
  clear kb hsd
  have i1 : decide ((4 : Int) ≤ (m : Int) + 4) = true := decide_eq_true (by omega)
  have i2 : (0 : Int) ≤ (m : Int) := by omega
  have i3 : max (m : Int) 0 = (m : Int) := by omega
  have i4 : (m : Int) ≤ (m : Int) + 4 := by omega
  have i5 : (m : Int) ≤ (c' : Int) := by obtain ⟨A', c2, he, h1, -⟩ := H2.out.val; cases he; omega
  refine (open_long B o m c' b _ (H2.out.below HQ5.out) hb (by omega)).mono ?_
  rintro e w6 ⟨hb6, hif⟩
  have HQ6 := Lib.hid (HQ5.out.trans (hb6.mono HQ5.out.size))
  clear hb6
  by_cases hq : cbytes (csum (b.take m)) = b.drop m
  · rw [if_pos hq] at hif
    obtain ⟨A6, c6, rfl, ho6, -⟩ := hif
    have HO6 := Lib.hid (Reads.of_owns ho6)
    have hs : cseal (b.take m) = b := by unfold cseal; rw [hq, List.take_append_drop]
    have ht : ((bstr (cseal (b.take m))).toList == (bstr b).toList) = true := by rw [hs]; exact beq_self_eq_true _
    have kq : ∀ W, Reads W 1 (.slice A6 m c6) m (u8s (b.take m)) → _ := fun W h => conv_str h
    have KQ := Lib.hid kq
    have kf : ∀ W, Reads W 1 (.slice (some ⟨B, o, none⟩) m c') m (u8s (b.take m)) → _ := fun W h => conv_str h
    have KF := Lib.hid kf
    clear hs hq ho6 kq kf
    go_wp2_with fail
    have i6 : IntKind.i64.wrap ((m : Int) + 4 - 4) = (m : Int) := by rw [show (m : Int) + 4 - 4 = m by omega]; exact IntWalk.i64_in _ (by omega)
    have i7 : IntKind.i64.wrap (m : Int) = (m : Int) := IntWalk.i64_in _ (by omega)
    have f1 := KB.out w6.drew ((H2.out.below HQ6.out).drewN 1)
    go_region_held3 (fun w' => (convert 22 9 (.slice (some ⟨B, o, none⟩) (m + 4) c')).run Try.prog w' = .ok (.string (bstr b)) w') (first | assumption)
      (first
        | (go_at_call 13; refine (HSd.out _ (((H2.out.below HQ6.out).drewN 1).front)).mono ?_; rintro e w7 ⟨rfl, hb7⟩; have f2 := KB.out w7 (((H2.out.below HQ6.out).drewN 1).below hb7); have HB7 := Lib.hid hb7; clear hb7))
    have q7 : Below w.heap.size w w7 := HQ6.out.trans ((⟨HB7.out.os, HB7.out.tape, HB7.out.output, HB7.out.size, HB7.out.block⟩ : Below w6.heap.size w6 w7).mono HQ6.out.size)
    have HQ7 := Lib.hid q7
    have HO7 := Lib.hid ((HO6.out.drewN 1).below HB7.out)
    clear f1 f2 q7 i6 i7
    go_wp2_with fail
    have f3 := fun n => KQ.out (w7.drewN n) (HO7.out.drewN n)
    have f4 := fun n => KF.out (w7.drewN n) ((H2.out.below HQ7.out).drewN n).front
    have i6 : IntKind.i64.wrap ((m : Int) + 4 - 4) = (m : Int) := by rw [show (m : Int) + 4 - 4 = m by omega]; exact IntWalk.i64_in _ (by omega)
    have i7 : IntKind.i64.wrap (m : Int) = (m : Int) := IntWalk.i64_in _ (by omega)
    go_quiet (fail)
    obtain ⟨m2, rfl⟩ : ∃ m, m = nq := ⟨_, rfl⟩
    clear f3 f4 i6 i7
    go_wp2_with fail
    refine (awake_any _).mono ?_
    rintro e w9 ⟨rfl, hb9⟩
    have HB9 := Lib.hid ((below_drewN HQ7.out m2).trans (hb9.mono (below_drewN HQ7.out m2).size))
    clear hb9
    go_wp2
    go_ret
    exact ⟨rfl, HB9.out⟩
  · rw [if_neg hq] at hif
    subst hif
    have hs : ((bstr (cseal (b.take m))).toList == (bstr b).toList) = false := by
      rw [bstr_eq (bts_cseal (bts_take hb m)) hb]
      apply decide_eq_false
      intro h
      have h2 := congrArg (List.drop m) h
      have h3 : (b.take m).length = m := by rw [List.length_take, HM.out]; omega
      have h4 := cseal_drop (b.take m)
      rw [h3] at h4
      exact hq (h4.symm.trans h2)
    clear hq
    go_wp2_with fail
    have i6 : IntKind.i64.wrap ((m : Int) + 4 - 4) = (m : Int) := by rw [show (m : Int) + 4 - 4 = m by omega]; exact IntWalk.i64_in _ (by omega)
    have i7 : IntKind.i64.wrap (m : Int) = (m : Int) := IntWalk.i64_in _ (by omega)
    have f1 := KB.out w6.drew ((H2.out.below HQ6.out).drewN 1)
    go_region_held3 (fun w' => (convert 22 9 (.slice (some ⟨B, o, none⟩) (m + 4) c')).run Try.prog w' = .ok (.string (bstr b)) w') (first | assumption)
      (first
        | (go_at_call 13; refine (HSd.out _ (((H2.out.below HQ6.out).drewN 1).front)).mono ?_; rintro e w7 ⟨rfl, hb7⟩; have f2 := KB.out w7 (((H2.out.below HQ6.out).drewN 1).below hb7); have HB7 := Lib.hid hb7; clear hb7))
    have q7 : Below w.heap.size w w7 := HQ6.out.trans ((⟨HB7.out.os, HB7.out.tape, HB7.out.output, HB7.out.size, HB7.out.block⟩ : Below w6.heap.size w6 w7).mono HQ6.out.size)
    have HQ7 := Lib.hid q7
    clear f1 f2 q7 i6 i7
    go_wp2_with fail
    go_quiet (fail)
    obtain ⟨m2, rfl⟩ : ∃ m, m = nq := ⟨_, rfl⟩
    go_wp2_with fail
    refine (awake_any _).mono ?_
    rintro e w9 ⟨rfl, hb9⟩
    have HB9 := Lib.hid ((below_drewN HQ7.out m2).trans (hb9.mono (below_drewN HQ7.out m2).size))
    clear hb9
    go_wp2
    go_ret
    exact ⟨rfl, HB9.out⟩
theorem crcSeals_any (v1 v2 : Value) (a b : List Nat) (w : World) (h1 : Reads w 1 v1 a.length (u8s a)) (h2 : Reads w 1 v2 b.length (u8s b)) (ha : Bts a) (hb : Bts b) :
    Calls Try.prog 4 #[v1, v2] w fun e w' => e = .returned (.bool true) ∧ Below w.heap.size w w' := by
  rcases (by omega : (1000 < a.length ∨ (a.length ≤ 1000 ∧ 1000 < b.length)) ∨ (a.length ≤ 1000 ∧ b.length ≤ 1000)) with g | ⟨g, g2⟩
  · exact crcSeals_long v1 v2 a b w h1 h2 g
  · exact crcSeals_short v1 v2 a b w h1 h2 ha hb g g2
end Go.Proofs.Ytkencaebmgiakaa
