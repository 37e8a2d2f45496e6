/- stripe: the law StripeUpto. -/
import Derived.Test.YtoofhjhnfeamgaaStripeUpto
namespace Go.Proofs.Ytoofhjhnfeamgaa
open Go.RowKit
set_option linter.unusedVariables false
set_option linter.unusedSimpArgs false

theorem NextIs.keep {n : Nat} {m f : Int} {q : Nat} {o : Option Nat} (h : NextIs n m f q o) (hx : o = none → ¬ (f ≤ (q : Int) ∧ (lyr n q : Int) = m)) : NextIs n m f (q + 1) o := by
  cases o with
  | none =>
    intro j h1 h2 h3
    by_cases hj : j = q
    · subst hj; exact hx rfl ⟨h2, h3⟩
    · exact h j (by omega) h2 h3
  | some i => exact ⟨Nat.lt_succ_of_lt h.1, h.2.1, h.2.2.1, h.2.2.2⟩
theorem NextIs.here {n : Nat} {m f : Int} {q : Nat} (h : NextIs n m f q none) (h1 : f ≤ (q : Int)) (h2 : (lyr n q : Int) = m) : NextIs n m f (q + 1) (some q) :=
  ⟨Nat.lt_succ_self q, h1, h2, fun j hj hf => h j hj hf⟩
def nv : Option Nat → Int
  | some i => i
  | none => -1
set_option maxRecDepth 100000 in
set_option maxHeartbeats 1000000 in
theorem stripeUpto_no (s k n m f : Int) (w : World) (h : planB s k n = false ∨ 2000 < s) :
    Calls Try.prog 7 #[.agg #[.int .i64 s, .int .i64 k, .int .i64 n], .int .i64 m, .int .i64 f] w fun e w' => e = .returned (.bool true) ∧ Below w.heap.size w w' := by
  have HR := Lib.hid (right_any' s k n)
  have HAW := Lib.hid awake_any
  have hb := Blk.new w #[.int .i64 s, .int .i64 k, .int .i64 n] 23
  have HB := Lib.hid ((Below.refl _ w).alloc (Nat.le_refl w.heap.size) (.cells #[.int .i64 s, .int .i64 k, .int .i64 n] 23))
  have c0 := hb.cell 0 (v := .int .i64 s) rfl
  have c1 := hb.cell 1 (v := .int .i64 k) rfl
  have c2 := hb.cell 2 (v := .int .i64 n) rfl
  clear hb
  cases hpb : planB s k n with
  | false =>
    rw [hpb] at HR
    clear h hpb
    go_enter Try.func7, Try.ntmps7
    go_wp2_with fail
    refine (HR.out _).mono ?_
    rintro e w3 ⟨rfl, rfl⟩
    go_wp2_with fail
    refine (HAW.out _).mono ?_
    rintro e w3 ⟨rfl, hb⟩
    have HB3 := Lib.hid (bmore HB.out hb HB.out.size)
    clear hb
    go_wp2
    go_ret
    exact ⟨rfl, HB3.out⟩
  | true =>
    have hs : 2000 < s := by
      rcases h with h | h
      · rw [hpb] at h; cases h
      · exact h
    rw [hpb] at HR
    clear h hpb
    go_enter Try.func7, Try.ntmps7
    go_wp2_with fail
    refine (HR.out _).mono ?_
    rintro e w3 ⟨rfl, rfl⟩
    go_wp2_with fail
    refine (HAW.out _).mono ?_
    rintro e w3 ⟨rfl, hb⟩
    have HB3 := Lib.hid (bmore HB.out hb HB.out.size)
    clear hb
    go_wp2
    go_ret
    exact ⟨rfl, HB3.out⟩
set_option maxRecDepth 100000 in
set_option maxHeartbeats 4000000 in
theorem stripeUpto_yes (s k n : Nat) (m f : Int) (w : World) (hp : PlanOk s k n) (hs2 : s ≤ 2000) :
    Calls Try.prog 7 #[.agg #[.int .i64 s, .int .i64 k, .int .i64 n], .int .i64 m, .int .i64 f] w fun e w' => e = .returned (.bool true) ∧ Below w.heap.size w w' := by
  have HR := Lib.hid (right_any' s k n)
  rw [planB_nat.2 hp] at HR
  have HAW := Lib.hid awake_any
  have HPL := Lib.hid (fun w => plan_any s k n w hp)
  have HUP := Lib.hid (fun b w h => upto_any b s k n m w h hp)
  have HBL := Lib.hid (fun b w h => blocks_any b s k n w h hp)
  have HNX := Lib.hid (fun b w h => next_any b s k n m f w h hp)
  have HCT := Lib.hid (fun b w h => count_any b s k n m w h hp)
  have HRL := Lib.hid (fun i w hi => reflayer_any i n w hi hp.2.2.2)
  have HHS := Lib.hid @has_any
  have HLN := Lib.hid @len_any
  have hb := Blk.new w #[.int .i64 s, .int .i64 k, .int .i64 n] 23
  have HB := Lib.hid ((Below.refl _ w).alloc (Nat.le_refl w.heap.size) (.cells #[.int .i64 s, .int .i64 k, .int .i64 n] 23))
  have HC : Hid (∀ w', Below (w.heap.size + 1) (w.alloc (.cells #[.int .i64 s, .int .i64 k, .int .i64 n] 23)) w' → Blk w' w.heap.size #[.int .i64 s, .int .i64 k, .int .i64 n] 23) := fun w' h => hb.keep (Keep.ofBelow h) (by omega)
  have hsz : (w.alloc (.cells #[.int .i64 s, .int .i64 k, .int .i64 n] 23)).heap.size = w.heap.size + 1 := by simp
  have HSZ := Lib.hid hsz
  have c0 := hb.cell 0 (v := .int .i64 s) rfl
  have c1 := hb.cell 1 (v := .int .i64 k) rfl
  have c2 := hb.cell 2 (v := .int .i64 n) rfl
  have hl := nb_le hp.1 hp.2.1
  have i0 : ¬ (2000 : Int) < (s : Int) := by omega
  clear hb hp hsz hs2
  generalize nb s k = z at *
  go_enter Try.func7, Try.ntmps7
  go_wp2_with fail
  refine (HR.out _).mono ?_
  rintro e w3 ⟨rfl, rfl⟩
  go_wp2_with fail
  refine (HPL.out _).mono ?_
  rintro e w4 ⟨b, rfl, hp4, hb4⟩
  have H4 := Lib.hid hp4
  rw [HSZ.out] at hb4
  have HC4 := Lib.hid (HC.out w4 hb4)
  have HB4 := Lib.hid (bmore HB.out hb4 (Nat.le_succ _))
  clear hp4 hb4 c0 c1 c2 HB HC i0
  go_wp2_with fail
  refine (HUP.out b w4 H4.out).mono ?_
  rintro e w5 ⟨v, l, rfl, hs5, hg5, hc5, hv5, hb5⟩
  obtain ⟨b2, hb2⟩ : ∃ b2, b2 = w4.heap.size := ⟨_, rfl⟩
  rw [← hb2] at hs5 ⊢
  have HS5 := Lib.hid hs5
  have HG := Lib.hid hg5
  have HCV := Lib.hid hc5
  have H5 := Lib.hid (H4.out.below hb5)
  have HC5 := Lib.hid (HC4.out.keep (Keep.none hb5) id)
  have HB5 := Lib.hid (bmore HB4.out hb5 HB4.out.size)
  clear hs5 hg5 hc5 hv5 hb5 hb2
  go_wp2_with fail
  refine (HBL.out b w5 H5.out).mono ?_
  rintro e w6 ⟨rfl, hb6⟩
  have HS6 := Lib.hid (HS5.out.below hb6)
  have H6 := Lib.hid (H5.out.below hb6)
  have HC6 := Lib.hid (HC5.out.keep (Keep.none hb6) id)
  have HB6 := Lib.hid (bmore HB5.out hb6 HB5.out.size)
  clear hb6
  go_wp2_with fail
  go_loopw [9, 10, 40] (fun x y i wr => ∃ (q c : Nat) (o : Option Nat), q ≤ z ∧ c ≤ q ∧ x = .int .i64 c ∧ y = .int .i64 (nv o) ∧ i = .int .i64 q ∧ Hid (c = cu n m q) ∧ Hid (NextIs n m f q o) ∧ Hid (SetAt wr b2 v l (tot l)) ∧ Hid (PlanAt wr b s k n) ∧ Hid (Blk wr w.heap.size #[.int .i64 s, .int .i64 k, .int .i64 n] 23) ∧ Hid (Below w.heap.size w wr)) (fun _ _ i _ => z - (intOf i).toNat)
  case atStart => exact ⟨0, 0, none, by omega, by omega, rfl, rfl, rfl, Lib.hid (cu_zero n m).symm, Lib.hid (fun j h => by omega), HS6, H6, HC6, HB6⟩
  case round =>
    obtain ⟨q, c, o, hq, hcq, rfl, rfl, rfl, HCU, HO, HS, HP, HK, HB⟩ := hrel
    by_cases hqz : q < z
    · have i1 : (q : Int) < (z : Int) := by omega
      have q2 := HK.out.cell 2 (v := .int .i64 n) rfl
      go_wp2_with fail
      refine (HRL.out q wr (by omega)).mono ?_
      rintro e w7 ⟨rfl, rfl⟩
      clear q2
      go_wp2_with fail
      refine (HHS.out b2 v l (tot l) q wr HS.out HG.out (by omega)).mono ?_
      rintro e w8 ⟨rfl, hb8⟩
      have hcov : cov l q = decide ((lyr n q : Int) ≤ m) := by
        rw [HCV.out]
        unfold uptoB
        rw [decide_eq_true (show (0 : Int) ≤ q ∧ (q : Int) < z by omega), Bool.true_and, Int.toNat_natCast]
      rw [hcov]
      have HS8 := Lib.hid (HS.out.below hb8)
      have HP8 := Lib.hid (HP.out.below hb8)
      have HK8 := Lib.hid (HK.out.keep (Keep.none hb8) id)
      have HB8 := Lib.hid (bmore HB.out hb8 HB.out.size)
      have HA := Lib.hid (cu_add n m q (by omega))
      have HKP := Lib.hid (fun hx => HO.out.keep hx)
      have HHR := Lib.hid (fun (e : o = none) h1 h2 => NextIs.here (n := n) (m := m) (f := f) (q := q) (by have h := HO.out; rw [e] at h; exact h) h1 h2)
      clear hb8 hcov
      by_cases hle : (lyr n q : Int) ≤ m
      · have HA2 : Hid (c + 1 = cu n m (q + 1)) := by show _ = _; rw [HA.out, if_pos hle, HCU.out]
        by_cases he : (lyr n q : Int) = m
        · have t1 : ((lyr n q : Int) == m) = true := by simp [he]
          by_cases hf : f ≤ (q : Int)
          · cases o with
            | none =>
              have HO2 := Lib.hid (HHR.out rfl hf he)
              clear he
              generalize lyr n q = y at *
              go_wp2
              go_roundw
              case rel => exact ⟨q + 1, c + 1, some q, by omega, by omega, by go_num, rfl, by go_num, HA2, HO2, HS8, HP8, HK8, HB8⟩
              case measure => simp [intOf]; omega
            | some i =>
              have HO2 := Lib.hid (HKP.out (fun h => by cases h))
              have hnv : ¬ nv (some i) < 0 := by show ¬ (i : Int) < 0; omega
              clear he
              generalize lyr n q = y at *
              go_wp2
              go_roundw
              case rel => exact ⟨q + 1, c + 1, some i, by omega, by omega, by go_num, rfl, by go_num, HA2, HO2, HS8, HP8, HK8, HB8⟩
              case measure => simp [intOf]; omega
          · have HO2 := Lib.hid (HKP.out (fun _ h => hf h.1))
            clear he
            generalize lyr n q = y at *
            go_wp2
            go_roundw
            case rel => exact ⟨q + 1, c + 1, o, by omega, by omega, by go_num, rfl, by go_num, HA2, HO2, HS8, HP8, HK8, HB8⟩
            case measure => simp [intOf]; omega
        · have t1 : ((lyr n q : Int) == m) = false := by simp [he]
          have HO2 := Lib.hid (HKP.out (fun _ h => he h.2))
          clear he
          generalize lyr n q = y at *
          go_wp2
          go_roundw
          case rel => exact ⟨q + 1, c + 1, o, by omega, by omega, by go_num, rfl, by go_num, HA2, HO2, HS8, HP8, HK8, HB8⟩
          case measure => simp [intOf]; omega
      · have HA2 : Hid (c = cu n m (q + 1)) := by show _ = _; rw [HA.out, if_neg hle, HCU.out, Nat.add_zero]
        have he : ¬ (lyr n q : Int) = m := by omega
        have t1 : ((lyr n q : Int) == m) = false := by simp [he]
        have HO2 := Lib.hid (HKP.out (fun _ h => he h.2))
        clear he
        generalize lyr n q = y at *
        go_wp2
        go_roundw
        case rel => exact ⟨q + 1, c, o, by omega, by omega, rfl, rfl, by go_num, HA2, HO2, HS8, HP8, HK8, HB8⟩
        case measure => simp [intOf]; omega
    · obtain rfl : q = z := by omega
      have i1 : ¬ (q : Int) < (q : Int) := by omega
      go_wp2_with fail
      refine (HNX.out b wr HP.out).mono ?_
      rintro e w7 ⟨o', rfl, ho', hb7⟩
      obtain rfl := HO.out.uniq ho'
      have HS7 := Lib.hid (HS.out.below hb7)
      have HP7 := Lib.hid (HP.out.below hb7)
      have HB7 := Lib.hid (bmore HB.out hb7 HB.out.size)
      have ht : tot l = (c : Int) := by rw [tot_cu HG.out HCV.out, HCU.out]
      have HT := Lib.hid ht
      clear hb7 ho' ht
      have t1 : ((c : Int) == (c : Int)) = true := by simp
      cases o with
      | none =>
        unfold nextV nv
        go_wp2_with fail
        refine (HLN.out b2 v l (tot l) w7 HS7.out).mono ?_
        rintro e w8 ⟨rfl, rfl⟩
        rw [HT.out]
        go_wp2_with fail
        refine (HCT.out b w7 HP7.out).mono ?_
        rintro e w8 ⟨⟨l2, rfl, hg2, hc2⟩, hb8⟩
        have ht2 : tot l2 = (c : Int) := by rw [tot_cu hg2 hc2, HCU.out]
        rw [ht2]
        have HB8 := Lib.hid (bmore HB7.out hb8 HB7.out.size)
        clear hg2 hc2 hb8 ht2
        go_wp2_with fail
        refine (HAW.out w8).mono ?_
        rintro e w9 ⟨rfl, hb9⟩
        have HB9 := Lib.hid (bmore HB8.out hb9 HB8.out.size)
        clear hb9
        go_wp2
        go_ret
        exact ⟨rfl, HB9.out⟩
      | some i =>
        unfold nextV nv
        have t2 : (0 : Int) ≤ (i : Int) := by omega
        have t3 : ((i : Int) == (i : Int)) = true := by simp
        go_wp2_with fail
        refine (HLN.out b2 v l (tot l) w7 HS7.out).mono ?_
        rintro e w8 ⟨rfl, rfl⟩
        rw [HT.out]
        go_wp2_with fail
        refine (HCT.out b w7 HP7.out).mono ?_
        rintro e w8 ⟨⟨l2, rfl, hg2, hc2⟩, hb8⟩
        have ht2 : tot l2 = (c : Int) := by rw [tot_cu hg2 hc2, HCU.out]
        rw [ht2]
        have HB8 := Lib.hid (bmore HB7.out hb8 HB7.out.size)
        clear hg2 hc2 hb8 ht2
        go_wp2_with fail
        refine (HAW.out w8).mono ?_
        rintro e w9 ⟨rfl, hb9⟩
        have HB9 := Lib.hid (bmore HB8.out hb9 HB8.out.size)
        clear hb9
        go_wp2
        go_ret
        exact ⟨rfl, HB9.out⟩
theorem stripeUpto_any (s k n m f : Int) (w : World) :
    Calls Try.prog 7 #[.agg #[.int .i64 s, .int .i64 k, .int .i64 n], .int .i64 m, .int .i64 f] w fun e w' => e = .returned (.bool true) ∧ Below w.heap.size w w' := by
  by_cases h2 : 2000 < s
  · exact stripeUpto_no s k n m f w (.inr h2)
  · cases h : planB s k n with
    | false => exact stripeUpto_no s k n m f w (.inl h)
    | true =>
      obtain ⟨s', k', n', rfl, rfl, rfl, hp⟩ := planB_ok h
      exact stripeUpto_yes s' k' n' m f w hp (by omega)
end Go.Proofs.Ytoofhjhnfeamgaa
