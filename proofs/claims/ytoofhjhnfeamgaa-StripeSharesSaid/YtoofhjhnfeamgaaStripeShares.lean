/- stripe: the law StripeShares. -/
import Derived.Test.YtoofhjhnfeamgaaStripeSh2
import Derived.Laws.MakeOwn
namespace Go.Proofs.Ytoofhjhnfeamgaa
open Go.RowKit
set_option linter.unusedVariables false
set_option linter.unusedSimpArgs false

def winV (n a q : Nat) : List Value := (List.range n).map fun j => .int .i64 (winC n a q j : Nat)
theorem winV_get {n a q j : Nat} (h : j < n) : (winV n a q)[j]? = some (.int .i64 (winC n a q j : Nat)) := by
  unfold winV
  rw [List.getElem?_map, List.getElem?_range h]; rfl
theorem shrV_get {n j : Nat} (h : j < n) : (shrV n)[j]? = some (.int .i64 (shr j : Nat)) := by
  unfold shrV
  rw [List.getElem?_map, List.getElem?_range h]; rfl
theorem winV_len (n a q : Nat) : (winV n a q).length = n := by unfold winV; simp
theorem winV_set {n a q : Nat} (h : lyr n (a + q) < n) : (winV n a q).set (lyr n (a + q)) (.int .i64 ((winC n a q (lyr n (a + q)) : Nat) + 1 : Int)) = winV n a (q + 1) := by
  apply List.ext_getElem?
  intro j
  rw [List.getElem?_set]
  by_cases hj : j < n
  · rw [winV_get hj, winV_get hj, winV_len]
    by_cases he : lyr n (a + q) = j
    · subst he
      rw [if_pos rfl, if_pos h]
      simp [winC]
    · rw [if_neg he]
      simp [winC, he]
  · have e1 : (winV n a q)[j]? = none := List.getElem?_eq_none (by rw [winV_len]; omega)
    have e2 : (winV n a (q + 1))[j]? = none := List.getElem?_eq_none (by rw [winV_len]; omega)
    rw [e1, e2, if_neg (by omega)]
theorem winC_le (n a j : Nat) : ∀ q, winC n a q j ≤ q
  | 0 => Nat.le_refl _
  | q + 1 => by
    have := winC_le n a j q
    rw [show winC n a (q + 1) j = winC n a q j + (if lyr n (a + q) = j then 1 else 0) from rfl]
    split <;> omega
theorem made_win (n a : Nat) : madeCells (Value.int .i64 0).cells (n * 1) = (winV n a 0).toArray := by
  apply Array.ext
  · rw [size_madeCells, List.size_toArray, winV_len, Nat.mul_one]
  · intro i h1 h2
    rw [size_madeCells] at h1
    have : (winV n a 0).toArray[i]? = some (.int .i64 0) := by
      rw [List.getElem?_toArray, winV_get (by omega)]; rfl
    rw [Array.getElem?_eq_getElem h2] at this
    rw [Option.some.inj this]
    simp [madeCells, Value.cells, Nat.mod_one]
set_option maxRecDepth 100000 in
set_option maxHeartbeats 1000000 in
theorem stripeShares_no (n a : Int) (w : World) (h : ¬ (1 ≤ n ∧ n ≤ 8 ∧ 0 ≤ a ∧ a ≤ 2000)) :
    Calls Try.prog 5 #[.int .i64 n, .int .i64 a] w fun e w' => e = .returned (.bool true) ∧ Below w.heap.size w w' := by
  have HAW := Lib.hid awake_any
  by_cases h1 : 1 ≤ n
  · by_cases h2 : n ≤ 8
    · by_cases h3 : 0 ≤ a
      · have h4 : ¬ a ≤ 2000 := fun e => h ⟨h1, h2, h3, e⟩
        clear h
        go_enter Try.func5, Try.ntmps5
        go_wp2_with fail
        refine (HAW.out _).mono ?_
        rintro e w3 ⟨rfl, hb⟩
        have HB3 := Lib.hid hb
        clear hb
        go_wp2
        go_ret
        exact ⟨rfl, HB3.out⟩
      clear h
      go_enter Try.func5, Try.ntmps5
      go_wp2_with fail
      refine (HAW.out _).mono ?_
      rintro e w3 ⟨rfl, hb⟩
      have HB3 := Lib.hid hb
      clear hb
      go_wp2
      go_ret
      exact ⟨rfl, HB3.out⟩
    clear h
    go_enter Try.func5, Try.ntmps5
    go_wp2_with fail
    refine (HAW.out _).mono ?_
    rintro e w3 ⟨rfl, hb⟩
    have HB3 := Lib.hid hb
    clear hb
    go_wp2
    go_ret
    exact ⟨rfl, HB3.out⟩
  clear h
  go_enter Try.func5, Try.ntmps5
  go_wp2_with fail
  refine (HAW.out _).mono ?_
  rintro e w3 ⟨rfl, hb⟩
  have HB3 := Lib.hid hb
  clear hb
  go_wp2
  go_ret
  exact ⟨rfl, HB3.out⟩
theorem pow_wrap {n : Nat} (h1 : 1 ≤ n) (h2 : n ≤ 8) : wrap64 (2 ^ (n - 1)) = ((2 ^ (n - 1) : Nat) : Int) := by
  rcases (by omega : n = 1 ∨ n = 2 ∨ n = 3 ∨ n = 4 ∨ n = 5 ∨ n = 6 ∨ n = 7 ∨ n = 8) with rfl | rfl | rfl | rfl | rfl | rfl | rfl | rfl <;> decide +kernel
set_option maxRecDepth 100000 in
set_option maxHeartbeats 4000000 in
theorem stripeShares_yes (n a : Nat) (w : World) (h1 : 1 ≤ n) (h2 : n ≤ 8) (ha : a ≤ 2000) :
    Calls Try.prog 5 #[.int .i64 n, .int .i64 a] w fun e w' => e = .returned (.bool true) ∧ Below w.heap.size w w' := by
  have hp : PlanOk 16384 4 n := ⟨by omega, by omega, by omega, h1, h2⟩
  have HAW := Lib.hid awake_any
  have HN := Lib.hid (fun w => pnew_yes 16384 4 n w hp)
  have HLY := Lib.hid (fun b i w h => layerp_any b 16384 4 n i w h hp)
  rw [show nb 16384 4 = 4096 from rfl] at HLY
  have HSH := Lib.hid (fun w => shares_any n w h1 h2)
  obtain ⟨i0, hi, hz0, hz1, hz2⟩ := info_parts info_int
  have hmk : ∀ w, (Instr.makeSlice 39 (.int .i64 (n : Int)) (.int .i64 (n : Int))).run Try.prog w = .ok (.slice (some ⟨w.heap.size, 0, none⟩) n n) (w.alloc (.cells (winV n a 0).toArray 3)) := fun w => by
    have h := run_make (P := Try.prog) w 39 3 i0 _ Try.underlying39 hi hz0 .i64 .i64 (n : Int) (n : Int) (by omega) (by omega) (by rw [hz2]; omega) (by omega)
    rw [hz1, Int.toNat_natCast, made_win n a] at h
    exact h
  have HMK := Lib.hid hmk
  have HPW := Lib.hid (pow_wrap h1 h2)
  have hP : 2 ^ (n - 1) ≤ 128 := Nat.pow_le_pow_right (n := 2) (i := n - 1) (j := 7) (by omega) (by omega)
  have HWS := Lib.hid (fun j hj => winC_share (n := n) (a := a) (j := j) h1 h2 hj)
  have HLI := Lib.hid (fun i => lyr_in (n := n) (i := i) h1 h2)
  have j0 : (0 : Int) ≤ (n : Int) - 1 := by omega
  have j1 : (n : Int) - 1 < 64 := by omega
  have g1 : ¬ (n : Int) < 1 := by omega
  have g2 : ¬ (8 : Int) < n := by omega
  have g3 : ¬ (a : Int) < 0 := by omega
  have g4 : ¬ (2000 : Int) < a := by omega
  obtain ⟨P, hPP⟩ : ∃ P, P = 2 ^ (n - 1) := ⟨_, rfl⟩
  have HPP := Lib.hid hPP
  rw [← hPP] at hP
  clear hp hmk hPP hi hz0 hz1 hz2
  go_enter Try.func5, Try.ntmps5
  go_wp2_with fail
  refine (HN.out w).mono ?_
  rintro e w1 ⟨rfl, hs1, hb1⟩
  have H1 := Lib.hid hs1
  have HB1 := Lib.hid hb1
  clear hs1 hb1
  go_wp2_with fail
  refine (HSH.out w1).mono ?_
  rintro e w2 ⟨A, c, rfl, ho2, hb2⟩
  have H2 := Lib.hid (H1.out.below hb2)
  have HO2 := Lib.hid (Reads.of_owns ho2)
  have HB2 := Lib.hid (bmore HB1.out hb2 HB1.out.size)
  have hmk := HMK.out w2
  have HK0 := Lib.hid (Blk.new w2 (winV n a 0).toArray 3)
  have hba := (Below.refl _ w2).alloc (Nat.le_refl w2.heap.size) (.cells (winV n a 0).toArray 3)
  have H3 := Lib.hid (H2.out.below hba)
  have HO3 := Lib.hid (HO2.out.below hba)
  have HB3 := Lib.hid (bmore HB2.out hba HB2.out.size)
  have HLT : Hid (w.heap.size < w2.heap.size ∧ ∀ g, (Value.slice A n c).ownBlock = some g → g < w2.heap.size) := ⟨H2.out.lt, fun g hg => HO2.out.lt g hg (by omega)⟩
  clear ho2 hb2 hba
  go_wp2_with fail
  clear hmk
  obtain ⟨g, hg⟩ : ∃ g, g = w2.heap.size := ⟨_, rfl⟩
  rw [← hg] at HK0 HLT ⊢
  have HGW : Hid (w.heap.size ≤ g) := Nat.le_of_lt HLT.out.1
  clear hg
  go_loopw [46] (fun i wr => ∃ q : Nat, q ≤ P ∧ i = .int .i64 q ∧ Hid (Blk wr g (winV n a q).toArray 3) ∧ Hid (PlanAt wr w.heap.size 16384 4 n) ∧ Hid (Reads wr 1 (.slice A n c) n (shrV n)) ∧ Hid (Below w.heap.size w wr)) (fun i _ => P - (intOf i).toNat)
  case atStart => exact ⟨0, by omega, rfl, HK0, H3, HO3, HB3⟩
  case round =>
    obtain ⟨q, hq, rfl, HK, HP, HO, HB⟩ := hrel
    by_cases hqP : q < P
    · have t0 : (q : Int) < wrap64 (2 ^ (n - 1)) := by rw [HPW.out, ← HPP.out]; omega
      go_wp2_with fail
      refine (HLY.out w.heap.size _ wr HP.out).mono ?_
      rintro e w4 ⟨rfl, hb4⟩
      rw [if_pos (by omega)]
      have hsum : ((a : Int) + (q : Int)).toNat = a + q := by omega
      rw [hsum]
      have HK4 := Lib.hid (HK.out.keep (Keep.none hb4) id)
      have HP4 := Lib.hid (HP.out.below hb4)
      have HO4 := Lib.hid (HO.out.below hb4)
      have HB4 := Lib.hid (bmore HB.out hb4 HB.out.size)
      have hli := HLI.out (a + q)
      have HSET := Lib.hid (winV_set (n := n) (a := a) (q := q) hli)
      have hcl := HK4.out.cell (lyr n (a + q)) (v := .int .i64 (winC n a q (lyr n (a + q)) : Nat)) (by rw [List.getElem?_toArray, winV_get hli])
      have hfz := HK4.out.frozen (lyr n (a + q))
      have hle := winC_le n a (lyr n (a + q)) q
      generalize winC n a q (lyr n (a + q)) = u at *
      generalize lyr n (a + q) = y at *
      have y1 : (0 : Int) ≤ (y : Int) := by omega
      have y2 : (y : Int) < (n : Int) := by omega
      have HKN : Hid (Blk (w4.setCell ⟨g, y, none⟩ (.int .i64 ((u : Int) + 1))) g (winV n a (q + 1)).toArray 3) := HK4.out.set' (by rw [← HSET.out, List.setIfInBounds_toArray])
      have HKE := Lib.hid ((Keep.refl (fun k => k = g) w4).setCell (p := ⟨g, y, none⟩) (.inl rfl) (.int .i64 ((u : Int) + 1)))
      have HPN : Hid (PlanAt (w4.setCell ⟨g, y, none⟩ (.int .i64 ((u : Int) + 1))) w.heap.size 16384 4 n) := Blk.keep HP4.out HKE.out (Nat.ne_of_lt HLT.out.1)
      have HON : Hid (Reads (w4.setCell ⟨g, y, none⟩ (.int .i64 ((u : Int) + 1))) 1 (.slice A n c) n (shrV n)) := HO4.out.keep HKE.out (fun k hk _ e => Nat.ne_of_lt (HLT.out.2 k hk) e)
      have HBN : Hid (Below w.heap.size w (w4.setCell ⟨g, y, none⟩ (.int .i64 ((u : Int) + 1)))) := bkeep HB4.out HKE.out (Nat.le_refl _) (fun k hk => by rw [hk]; exact HGW.out)
      clear hb4 hsum
      go_wp2
      go_roundw
      case rel => exact ⟨q + 1, by omega, by go_num, HKN, HPN, HON, HBN⟩
      case measure => simp [intOf]; omega
    · obtain rfl : q = P := by omega
      have t0 : ¬ (q : Int) < wrap64 (2 ^ (n - 1)) := by rw [HPW.out, ← HPP.out]; omega
      go_wp2_with fail
      go_loopw [81] (fun i wr' => ∃ (q2 m : Nat), q2 ≤ n ∧ i = .int .i64 q2 ∧ Hid (wr' = wr.drewN m)) (fun i _ => n - (intOf i).toNat)
      case atStart => exact ⟨0, 0, by omega, rfl, Lib.hid rfl⟩
      case round =>
        obtain ⟨q2, m, hq2, rfl, HW⟩ := hrel
        by_cases hqn : q2 < n
        · obtain ⟨g', o', c', he, a0⟩ := (HO.out.drewN m).at q2 _ (shrV_get hqn)
          cases he
          have b0 := (HK.out.drewN m).cell q2 (v := .int .i64 (shr q2 : Nat)) (by rw [List.getElem?_toArray, winV_get hqn, HPP.out, HWS.out q2 hqn])
          rw [← HW.out] at a0 b0
          have i1 : (0 : Int) ≤ (q2 : Int) := by omega
          have i2 : (q2 : Int) < (n : Int) := by omega
          generalize shr q2 = y at *
          have t1 : ((y : Int) == (y : Int)) = true := by simp
          go_wp2_with fail
          go_quiet (fail)
          go_wp2
          go_roundw
          case rel => exact ⟨q2 + 1, m + nq, by omega, by go_num, Lib.hid (by rw [HW.out]; simp [World.drewN, Nat.add_assoc])⟩
          case measure => simp [intOf]; omega
        · obtain rfl : q2 = n := by omega
          go_wp2_with fail
          refine (HAW.out _).mono ?_
          rintro e w5 ⟨rfl, hb5⟩
          have HB5 : Hid (Below w.heap.size w w5) := by
            have h := hb5
            rw [HW.out] at h
            exact bmore (below_drewN HB.out m) h HB.out.size
          clear hb5
          go_wp2
          go_ret
          exact ⟨rfl, HB5.out⟩
theorem stripeShares_any (n a : Int) (w : World) :
    Calls Try.prog 5 #[.int .i64 n, .int .i64 a] w fun e w' => e = .returned (.bool true) ∧ Below w.heap.size w w' := by
  by_cases h : 1 ≤ n ∧ n ≤ 8 ∧ 0 ≤ a ∧ a ≤ 2000
  · obtain ⟨n', rfl⟩ := Int.eq_ofNat_of_zero_le (show 0 ≤ n by omega)
    obtain ⟨a', rfl⟩ := Int.eq_ofNat_of_zero_le h.2.2.1
    exact stripeShares_yes n' a' w (by omega) (by omega) (by omega)
  · exact stripeShares_no n a w h
end Go.Proofs.Ytoofhjhnfeamgaa
