/- group: the law GroupMembers is walked. -/
import Derived.Test.YtbdnopimaofabaaGroupRd
import Derived.Lib.MinMax
namespace Go.Proofs.Ytbdnopimaofabaa
open Go.RowKit
set_option linter.unusedVariables false
set_option linter.unusedSimpArgs false

theorem mem_succ (l : List One) (layer now : Int) (k : Nat) (o : One) (h : l[k]? = some o) : mem l layer now (k + 1) = if 0 ≤ layer ∧ layer ≤ o.at now then mem l layer now k ++ [(k : Int)] else mem l layer now k := by
  have : l.getD k one0 = o := by rw [List.getD_eq_getElem?_getD, h]; rfl
  rw [← this]; rfl
theorem mem_pre (l : List One) (layer now : Int) (k : Nat) : ∀ d, ∃ t, mem l layer now (k + d) = mem l layer now k ++ t
  | 0 => ⟨[], by simp⟩
  | d + 1 => by
    obtain ⟨t, ht⟩ := mem_pre l layer now k d
    have e : mem l layer now (k + (d + 1)) = if 0 ≤ layer ∧ layer ≤ (l.getD (k + d) one0).at now then mem l layer now (k + d) ++ [((k + d : Nat) : Int)] else mem l layer now (k + d) := rfl
    rw [e]
    split
    · exact ⟨t ++ [((k + d : Nat) : Int)], by rw [ht, List.append_assoc]⟩
    · exact ⟨t, ht⟩
theorem mem_get (l : List One) (layer now : Int) (k n : Nat) (o : One) (h : l[k]? = some o) (hk : k < n) (hc : 0 ≤ layer ∧ layer ≤ o.at now) : (mem l layer now n)[(mem l layer now k).length]? = some (k : Int) := by
  obtain ⟨t, ht⟩ := mem_pre l layer now (k + 1) (n - (k + 1))
  rw [show k + 1 + (n - (k + 1)) = n by omega, mem_succ l layer now k o h, if_pos hc] at ht
  rw [ht]
  simp
theorem mem_mono (l : List One) (layer now : Int) (h : 1 ≤ layer) : ∀ n, (mem l layer now n).length ≤ (mem l (layer - 1) now n).length
  | 0 => Nat.le_refl _
  | n + 1 => by
    have ih := mem_mono l layer now h n
    unfold mem
    split
    · rename_i hc
      rw [if_pos ⟨by omega, by omega⟩]
      simp
      exact ih
    · split
      · simp; omega
      · exact ih

set_option maxRecDepth 100000 in
set_option maxHeartbeats 1000000 in
theorem groupMembers_no (n j lv layer later : Int) (A : Option Addr) (k c : Nat) (w : World) (h : ¬ (CaseR n j lv k ∧ 0 ≤ later ∧ later ≤ 1000)) :
    Calls Try.prog 4 #[.agg #[.int .i64 n, .int .i64 j, .int .i64 lv, .slice A k c], .int .i64 layer, .int .i64 later] w fun e w' => e = .returned (.bool true) ∧ Below w.heap.size w w' := by
  by_cases hr : CaseR n j lv k
  · have HR := Lib.hid (fun w => right_yes n j lv A k c w hr)
    have hl : later < 0 ∨ (0 ≤ later ∧ 1000 < later) := by
      by_cases h0 : 0 ≤ later
      · exact .inr ⟨h0, by have : ¬ later ≤ 1000 := fun h1 => h ⟨hr, h0, h1⟩
                           omega⟩
      · exact .inl (by omega)
    clear hr h
    rcases hl with h0 | ⟨h0, h1⟩
    all_goals
      go_enter Try.func4, Try.ntmps4
      go_wp2_with fail
      refine (HR.out _).mono ?_
      rintro e w1 ⟨rfl, hb1⟩
      have q1 : Below w.heap.size w w1 := ((Below.refl _ w).alloc (Nat.le_refl _) _).trans (hb1.mono (by simp))
      clear hb1
      go_wp2_with fail
      refine (awake_any _).mono ?_
      rintro e w2 ⟨rfl, hb2⟩
      have q2 := bmore q1 hb2 q1.size
      clear q1 hb2
      go_wp2
      go_ret
      exact ⟨rfl, q2⟩
  · have HR := Lib.hid (fun w => right_no n j lv A k c w hr)
    clear hr h
    go_enter Try.func4, Try.ntmps4
    go_wp2_with fail
    refine (HR.out _).mono ?_
    rintro e w1 ⟨rfl, hb1⟩
    have q1 : Below w.heap.size w w1 := ((Below.refl _ w).alloc (Nat.le_refl _) _).trans (hb1.mono (by simp))
    clear hb1
    go_wp2_with fail
    refine (awake_any _).mono ?_
    rintro e w2 ⟨rfl, hb2⟩
    have q2 := bmore q1 hb2 q1.size
    clear q1 hb2
    go_wp2
    go_ret
    exact ⟨rfl, q2⟩

set_option maxRecDepth 100000 in
set_option maxHeartbeats 1000000 in
theorem groupMembers_yes (n : Nat) (j lv layer later : Int) (v : Value) (asks : List AskD) (w : World) (h : Asks w v asks) (hc : CaseR n j lv asks.length) (hl0 : 0 ≤ later) (hl1 : later ≤ 1000) :
    Calls Try.prog 4 #[.agg #[.int .i64 n, .int .i64 j, .int .i64 lv, v], .int .i64 layer, .int .i64 later] w fun e w' => e = .returned (.bool true) ∧ Below w.heap.size w w' := by
  obtain ⟨A, c, rfl, -⟩ := h.val
  obtain ⟨k1, k2, k3, k4, k5, k6⟩ := hc.1
  have hlen := hc.2
  have HR := Lib.hid (fun w => right_yes n j lv A asks.length c w hc)
  have HP := Lib.hid (fun w hw => played_any n j lv (.slice A asks.length c) asks w hw hc)
  have HZ := Blk.new w #[.int .i64 (n : Int), .int .i64 j, .int .i64 lv, .slice A asks.length c] 24
  have hb0 := (Below.refl w.heap.size w).alloc (Nat.le_refl _) (.cells #[.int .i64 (n : Int), .int .i64 j, .int .i64 lv, .slice A asks.length c] 24)
  have HH0 : Asks (w.alloc (.cells #[.int .i64 (n : Int), .int .i64 j, .int .i64 lv, .slice A asks.length c] 24)) (.slice A asks.length c) asks := Reads.below h hb0
  have HB0 := Lib.hid hb0
  have HA0 := Lib.hid HH0
  have HZ0 := Lib.hid HZ
  have hsz : w.heap.size < (w.alloc (.cells #[.int .i64 (n : Int), .int .i64 j, .int .i64 lv, .slice A asks.length c] 24)).heap.size := by simp
  clear h hb0 HH0 HZ hc
  go_enter Try.func4, Try.ntmps4
  go_wp2_with fail
  generalize w.alloc (.cells #[.int .i64 (n : Int), .int .i64 j, .int .i64 lv, .slice A asks.length c] 24) = wz at *
  refine (HR.out _).mono ?_
  rintro e w1 ⟨rfl, hb1⟩
  obtain ⟨z0, z1, z2, z3⟩ := blk4 (HZ0.out.below hb1)
  have HB1 := Lib.hid hb1
  have HA1 := Lib.hid (Reads.below HA0.out hb1)
  clear hb1
  go_wp2_with fail
  refine (HP.out _ HA1.out).mono ?_
  rintro e w2 ⟨b, g, l, Ax, cx, x, rfl, hg2, hi2, hx2, hb2, hbb, hgg⟩
  have HG2 := Lib.hid hg2
  have HI2 := Lib.hid hi2
  have HX2 : Hid (Asks w2 (.slice Ax x.length cx) x) := Reads.of_owns hx2
  have HB2 := Lib.hid (bmore HB1.out hb2 HB1.out.size)
  have hxl : x.length ≤ 1000000 := by have := hi2.xlen; omega
  clear hg2 hi2 hx2 hb2 hbb hgg z0 z1 z2 z3
  obtain ⟨z0, z1, z2, z3⟩ := blk4 (HZ0.out.below HB2.out)
  go_wp2_with fail
  clear z0 z1 z2 z3
  go_loopw [9, 10, 11, 12, 38] (fun t _ _ _ i wr => ∃ (k : Nat) (now : Int), k ≤ n ∧ i = .int .i64 k ∧ t = .int .i64 now ∧ 0 ≤ now ∧ now ≤ 1099511628776 ∧ Hid (Below w2.heap.size w2 wr)) (fun _ _ _ _ i _ => n - (intOf i).toNat)
  case atStart => exact ⟨0, later, by omega, rfl, rfl, hl0, by omega, Below.refl _ _⟩
  case round =>
    obtain ⟨k, now, hk, rfl, rfl, n0, n1, hb⟩ := hrel
    have HX : Hid (Asks wr (.slice Ax x.length cx) x) := Reads.below HX2.out hb.out
    by_cases hlt : k < n
    · obtain ⟨s, hs⟩ : ∃ s, s = rfold j lv k x := ⟨_, rfl⟩
      have hla := last_any j lv _ x k _ HX.out hxl
      have hbd := rfold_bd j lv ⟨k3, k4, k5, k6⟩ k x HI2.out.ok
      rw [← hs] at hla hbd
      obtain ⟨s0, s1, s2⟩ := hbd
      have HLA := Lib.hid hla
      have i1 : (0 : Int) ≤ (k : Int) := by omega
      have i2 : (k : Int) < (n : Int) := by omega
      clear hs hla
      go_wp2_with fail
      refine HLA.out.mono ?_
      rintro e w3 ⟨rfl, rfl⟩
      go_wp2
      go_roundw
      case rel => exact ⟨k + 1, max now (s.asked + later), by omega, by go_num, rfl, by omega, by omega, hb⟩
      case measure => simp [intOf]; omega
    · obtain rfl : k = n := by omega
      have HG := Lib.hid (HG2.out.below hb.out)
      have HQ := Lib.hid (bmore HB2.out hb.out HB2.out.size)
      have hln := HI2.out.len
      have HME := Lib.hid (members_any b g k l j lv layer now _ HG.out (by omega))
      rw [hln] at HME
      have HM2 := Lib.hid (fun w hw => members_any b g k l j lv (layer - 1) now w hw (by omega))
      rw [hln] at HM2
      clear hln
      have hml := mem_len l layer now k
      obtain ⟨m, hm⟩ : ∃ m, m = mem l layer now k := ⟨_, rfl⟩
      rw [← hm] at HME hml
      have HMM := Lib.hid hm
      clear hm
      go_wp2_with fail
      refine HME.out.mono ?_
      rintro e w3 ⟨A3, c3, rfl, ho3, hb3⟩
      have HG3 := Lib.hid (HG.out.below hb3)
      have HX3 : Hid (Asks w3 (.slice Ax x.length cx) x) := Reads.below HX.out hb3
      have HQ3 := Lib.hid (bmore HQ.out hb3 HQ.out.size)
      have HR3 := Lib.hid (Reads.of_owns ho3)
      clear ho3 hb3
      obtain ⟨z0, z1, z2, z3⟩ := blk4 (HZ0.out.below HQ3.out)
      go_wp2_with fail
      clear z0 z1 z2 z3
      go_loopw [14, 15, 59] (fun kk _ i wr => ∃ r : Nat, r ≤ k ∧ i = .int .i64 r ∧ kk = .int .i64 ((mem l layer now r).length : Nat) ∧ Hid (Below w3.heap.size w3 wr)) (fun _ _ i _ => k - (intOf i).toNat)
      case atStart => exact ⟨0, by omega, rfl, rfl, Below.refl _ _⟩
      case round =>
        obtain ⟨r, hr, rfl, rfl, hb4⟩ := hrel
        have HG4 := Lib.hid (HG3.out.below hb4.out)
        have HX4 : Hid (Asks wr (.slice Ax x.length cx) x) := Reads.below HX3.out hb4.out
        have HQ4 := Lib.hid (bmore HQ3.out hb4.out HQ3.out.size)
        have HR4 := Lib.hid (HR3.out.below hb4.out)
        obtain ⟨z0, z1, z2, z3⟩ := blk4 (HZ0.out.below HQ4.out)
        have hmr := mem_len l layer now r
        by_cases hlt : r < k
        · obtain ⟨s, hs⟩ : ∃ s, s = rfold j lv r x := ⟨_, rfl⟩
          have hrr := HI2.out.at_ r hlt
          have hrl := rlevel_any j lv _ x r now _ HX4.out hxl HI2.out.ok ⟨k3, k4, k5, k6⟩
          rw [← hs] at hrr hrl
          have hms := mem_succ l layer now r s hrr
          have i1 : (0 : Int) ≤ (r : Int) := by omega
          have i2 : (r : Int) < (k : Int) := by omega
          by_cases h0 : layer < 0
          · rw [if_neg (by omega)] at hms
            have HMS := Lib.hid hms
            clear hs hrr hrl hms
            go_wp2
            go_roundw
            case rel => exact ⟨r + 1, by omega, by go_num, by rw [HMS.out], hb4⟩
            case measure => simp [intOf]; omega
          · obtain ⟨a, ha⟩ : ∃ a, a = s.at now := ⟨_, rfl⟩
            rw [← ha] at hrl hms
            have HRL := Lib.hid hrl
            by_cases h1 : a < layer
            · rw [if_neg (by omega)] at hms
              have HMS := Lib.hid hms
              clear hs hrr hrl hms ha
              go_wp2_with fail
              refine HRL.out.mono ?_
              rintro e w5 ⟨rfl, hb5⟩
              have HW5 := Lib.hid (bmore hb4.out hb5 (Hid.out hb4).size)
              clear hb5
              go_wp2
              go_roundw
              case rel => exact ⟨r + 1, by omega, by go_num, by rw [HMS.out], HW5⟩
              case measure => simp [intOf]; omega
            · have hget := mem_get l layer now r k s hrr hlt ⟨by omega, by rw [← ha]; omega⟩
              rw [if_pos ⟨by omega, by omega⟩] at hms
              have HMS := Lib.hid (congrArg List.length hms)
              rw [List.length_append] at HMS
              rw [← HMM.out] at hget
              have hgl : (mem l layer now r).length < m.length := (List.getElem?_eq_some_iff.1 hget).1
              have HGE := Lib.hid hget
              clear hs hrr hrl hms ha hget
              obtain ⟨q, hq⟩ : ∃ q, q = (mem l layer now r).length := ⟨_, rfl⟩
              rw [← hq] at hgl hmr HGE HMS ⊢
              clear hq
              go_wp2_with fail
              refine HRL.out.mono ?_
              rintro e w5 ⟨rfl, hb5⟩
              have HW5 := Lib.hid (bmore hb4.out hb5 (Hid.out hb4).size)
              obtain ⟨gm, om, cm, hem, hcm⟩ := (HR4.out.below hb5).at q (.int .i64 (r : Int)) (by rw [List.getElem?_map, HGE.out]; rfl)
              cases hem
              have i3 : (0 : Int) ≤ (q : Int) := by omega
              have i4 : (q : Int) < (m.length : Int) := by omega
              have t1 : ((r : Int) != (r : Int)) = false := by simp
              clear hb5
              go_wp2
              go_roundw
              case rel => exact ⟨r + 1, by omega, by go_num, by rw [HMS.out]; go_num, HW5⟩
              case measure => simp [intOf]; omega
        · obtain rfl : r = k := by omega
          rw [← HMM.out]
          have t0 : ((m.length : Int) == (m.length : Int)) = true := by simp
          by_cases h1 : layer < 1
          · go_wp2_with fail
            refine (awake_any _).mono ?_
            rintro e w6 ⟨rfl, hb6⟩
            have HB6 := Lib.hid (bmore HQ4.out hb6 HQ4.out.size)
            clear hb6
            go_wp2
            go_ret
            exact ⟨rfl, HB0.out.trans (HB6.out.mono (by omega))⟩
          · by_cases h2 : 100 < layer
            · go_wp2_with fail
              refine (awake_any _).mono ?_
              rintro e w6 ⟨rfl, hb6⟩
              have HB6 := Lib.hid (bmore HQ4.out hb6 HQ4.out.size)
              clear hb6
              go_wp2
              go_ret
              exact ⟨rfl, HB0.out.trans (HB6.out.mono (by omega))⟩
            · have hmm := mem_mono l layer now (by omega) r
              rw [← HMM.out] at hmm
              obtain ⟨m2, hm2⟩ : ∃ m2, m2 = mem l (layer - 1) now r := ⟨_, rfl⟩
              rw [← hm2] at hmm HM2
              have t3 : decide ((m.length : Int) ≤ (m2.length : Int)) = true := decide_eq_true (by omega)
              clear hm2
              go_wp2_with fail
              refine (HM2.out _ HG4.out).mono ?_
              rintro e w5 ⟨A5, c5, rfl, -, hb5⟩
              have HB5 := Lib.hid (bmore HQ4.out hb5 HQ4.out.size)
              clear hb5
              go_wp2_with fail
              refine (awake_any _).mono ?_
              rintro e w6 ⟨rfl, hb6⟩
              have HB6 := Lib.hid (bmore HB5.out hb6 HB5.out.size)
              clear hb6
              go_wp2
              go_ret
              exact ⟨rfl, HB0.out.trans (HB6.out.mono (by omega))⟩
theorem groupMembers_any (n j lv layer later : Int) (v : Value) (asks : List AskD) (w : World) (h : Asks w v asks) :
    Calls Try.prog 4 #[.agg #[.int .i64 n, .int .i64 j, .int .i64 lv, v], .int .i64 layer, .int .i64 later] w fun e w' => e = .returned (.bool true) ∧ Below w.heap.size w w' := by
  by_cases hc : CaseR n j lv asks.length ∧ 0 ≤ later ∧ later ≤ 1000
  · obtain ⟨m, rfl⟩ : ∃ m : Nat, n = m := ⟨n.toNat, by have := hc.1.1.1; omega⟩
    exact groupMembers_yes m j lv layer later v asks w h hc.1 hc.2.1 hc.2.2
  · obtain ⟨A, c, rfl, -⟩ := h.val
    exact groupMembers_no n j lv layer later A asks.length c w hc
end Go.Proofs.Ytbdnopimaofabaa
