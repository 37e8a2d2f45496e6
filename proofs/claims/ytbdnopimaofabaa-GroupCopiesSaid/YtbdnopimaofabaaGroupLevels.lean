/- group: the law GroupLevels is walked. -/
import Derived.Test.YtbdnopimaofabaaGroupLaws
namespace Go.Proofs.Ytbdnopimaofabaa
open Go.RowKit
set_option linter.unusedVariables false
set_option linter.unusedSimpArgs false

theorem rfold_bd (j lv : Int) (hjl : 0 ≤ j ∧ j ≤ 64 ∧ 0 ≤ lv ∧ lv ≤ 64) (r : Int) (x : List AskD) (h : AsksOk x) : 0 ≤ (rfold j lv r x).asked ∧ (rfold j lv r x).asked ≤ 1099511627776 ∧ (rfold j lv r x).due ≤ (rfold j lv r x).asked + 64 := by
  obtain ⟨k1, k2, k3, k4⟩ := hjl
  have : ∀ (x : List AskD) (s : One), AsksOk x → (0 ≤ s.asked ∧ s.asked ≤ 1099511627776 ∧ s.due ≤ s.asked + 64) → (0 ≤ (x.foldl (rstep j lv r) s).asked ∧ (x.foldl (rstep j lv r) s).asked ≤ 1099511627776 ∧ (x.foldl (rstep j lv r) s).due ≤ (x.foldl (rstep j lv r) s).asked + 64) := by
    intro x
    induction x with
    | nil => exact fun s _ h => h
    | cons a x ih =>
      intro s hx hs
      refine ih _ (fun b hb => hx b (List.mem_cons_of_mem _ hb)) ?_
      have ha := hx a (by simp)
      unfold rstep
      split
      · refine ⟨ha.1, ha.2, ?_⟩
        unfold stp
        simp only
        split <;> omega
      · exact hs
  exact this x one0 h (by simp [one0])

set_option maxRecDepth 100000 in
set_option maxHeartbeats 1000000 in
theorem groupLevels_no (n j lv later : Int) (A : Option Addr) (k c : Nat) (w : World) (h : ¬ (CaseR n j lv k ∧ 0 ≤ later ∧ later ≤ 1000)) :
    Calls Try.prog 3 #[.agg #[.int .i64 n, .int .i64 j, .int .i64 lv, .slice A k c], .int .i64 later] w fun e w' => e = .returned (.bool true) ∧ Below w.heap.size w w' := by
  by_cases hr : CaseR n j lv k
  · have HR := Lib.hid (fun w => right_yes n j lv A k c w hr)
    have hl : later < 0 ∨ (0 ≤ later ∧ 1000 < later) := by
      by_cases h0 : 0 ≤ later
      · exact .inr ⟨h0, by have : ¬ later ≤ 1000 := fun h1 => h ⟨hr, h0, h1⟩
                           omega⟩
      · exact .inl (by omega)
    clear hr h
    rcases hl with h0 | ⟨h0, h1⟩
    all_goals
      go_enter Try.func3, Try.ntmps3
      go_wp2_with fail
      refine (HR.out _).mono ?_
      rintro e w1 ⟨rfl, hb1⟩
      have q1 : Below w.heap.size w w1 := ((Below.refl _ w).alloc (Nat.le_refl _) _).trans (hb1.mono (by simp))
      clear hb1
      go_wp2_with fail
      refine (awake_any _).mono ?_
      rintro e w2 ⟨rfl, hb2⟩
      have q2 := bmore q1 hb2 q1.size
      clear q1 hb2
      go_wp2
      go_ret
      exact ⟨rfl, q2⟩
  · have HR := Lib.hid (fun w => right_no n j lv A k c w hr)
    clear hr h
    go_enter Try.func3, Try.ntmps3
    go_wp2_with fail
    refine (HR.out _).mono ?_
    rintro e w1 ⟨rfl, hb1⟩
    have q1 : Below w.heap.size w w1 := ((Below.refl _ w).alloc (Nat.le_refl _) _).trans (hb1.mono (by simp))
    clear hb1
    go_wp2_with fail
    refine (awake_any _).mono ?_
    rintro e w2 ⟨rfl, hb2⟩
    have q2 := bmore q1 hb2 q1.size
    clear q1 hb2
    go_wp2
    go_ret
    exact ⟨rfl, q2⟩

set_option maxRecDepth 100000 in
set_option maxHeartbeats 1000000 in
theorem groupLevels_yes (n : Nat) (j lv later : Int) (v : Value) (asks : List AskD) (w : World) (h : Asks w v asks) (hc : CaseR n j lv asks.length) (hl0 : 0 ≤ later) (hl1 : later ≤ 1000) :
    Calls Try.prog 3 #[.agg #[.int .i64 n, .int .i64 j, .int .i64 lv, v], .int .i64 later] w fun e w' => e = .returned (.bool true) ∧ Below w.heap.size w w' := by
  obtain ⟨A, c, rfl, -⟩ := h.val
  obtain ⟨k1, k2, k3, k4, k5, k6⟩ := hc.1
  have hlen := hc.2
  have HR := Lib.hid (fun w => right_yes n j lv A asks.length c w hc)
  have HP := Lib.hid (fun w hw => played_any n j lv (.slice A asks.length c) asks w hw hc)
  have HZ := Blk.new w #[.int .i64 (n : Int), .int .i64 j, .int .i64 lv, .slice A asks.length c] 24
  have hb0 := (Below.refl w.heap.size w).alloc (Nat.le_refl _) (.cells #[.int .i64 (n : Int), .int .i64 j, .int .i64 lv, .slice A asks.length c] 24)
  have HH0 : Asks (w.alloc (.cells #[.int .i64 (n : Int), .int .i64 j, .int .i64 lv, .slice A asks.length c] 24)) (.slice A asks.length c) asks := Reads.below h hb0
  have HB0 := Lib.hid hb0
  have HA0 := Lib.hid HH0
  have HZ0 := Lib.hid HZ
  have hsz : w.heap.size < (w.alloc (.cells #[.int .i64 (n : Int), .int .i64 j, .int .i64 lv, .slice A asks.length c] 24)).heap.size := by simp
  clear h hb0 HH0 HZ hc
  go_enter Try.func3, Try.ntmps3
  go_wp2_with fail
  generalize w.alloc (.cells #[.int .i64 (n : Int), .int .i64 j, .int .i64 lv, .slice A asks.length c] 24) = wz at *
  refine (HR.out _).mono ?_
  rintro e w1 ⟨rfl, hb1⟩
  obtain ⟨z0, z1, z2, z3⟩ := blk4 (HZ0.out.below hb1)
  have HB1 := Lib.hid hb1
  have HA1 := Lib.hid (Reads.below HA0.out hb1)
  clear hb1
  go_wp2_with fail
  refine (HP.out _ HA1.out).mono ?_
  rintro e w2 ⟨b, g, l, Ax, cx, x, rfl, hg2, hi2, hx2, hb2, hbb, hgg⟩
  have HG2 := Lib.hid hg2
  have HI2 := Lib.hid hi2
  have HX2 : Hid (Asks w2 (.slice Ax x.length cx) x) := Reads.of_owns hx2
  have HB2 := Lib.hid (bmore HB1.out hb2 HB1.out.size)
  have hxl : x.length ≤ 1000000 := by have := hi2.xlen; omega
  clear hg2 hi2 hx2 hb2 hbb hgg z0 z1 z2 z3
  obtain ⟨z0, z1, z2, z3⟩ := blk4 (HZ0.out.below HB2.out)
  go_wp2_with fail
  clear z0 z1 z2 z3
  go_loopw [7, 8, 9, 10, 11, 35] (fun _ _ _ _ _ i wr => ∃ k : Nat, k ≤ n ∧ i = .int .i64 k ∧ Hid (Below w2.heap.size w2 wr)) (fun _ _ _ _ _ i _ => n - (intOf i).toNat)
  case atStart => exact ⟨0, by omega, rfl, Below.refl _ _⟩
  case round =>
    obtain ⟨k, hk, rfl, hb⟩ := hrel
    have HG := Lib.hid (HG2.out.below hb.out)
    have HX : Hid (Asks wr (.slice Ax x.length cx) x) := Reads.below HX2.out hb.out
    have HQ := Lib.hid (bmore HB2.out hb.out HB2.out.size)
    obtain ⟨z0, z1, z2, z3⟩ := blk4 (HZ0.out.below HQ.out)
    by_cases hlt : k < n
    · obtain ⟨s, hs⟩ : ∃ s, s = rfold j lv k x := ⟨_, rfl⟩
      have hr := HI2.out.at_ k hlt
      have hla := last_any j lv _ x k _ HX.out hxl
      have hrl := fun w hw => rlevel_any j lv (.slice Ax x.length cx) x k (s.asked + later) w hw hxl HI2.out.ok ⟨k3, k4, k5, k6⟩
      have hbd := rfold_bd j lv ⟨k3, k4, k5, k6⟩ k x HI2.out.ok
      rw [← hs] at hr hla hrl hbd
      obtain ⟨s0, s1, s2⟩ := hbd
      have HRK := Lib.hid hr
      have HLA := Lib.hid hla
      have HRL := Lib.hid hrl
      have i1 : (0 : Int) ≤ (k : Int) := by omega
      have i2 : (k : Int) < (n : Int) := by omega
      clear hs hr hla hrl
      go_wp2_with fail
      refine HLA.out.mono ?_
      rintro e w3 ⟨rfl, rfl⟩
      have HLV := Lib.hid (level_yes b g n l j lv k s (s.asked + later) _ HG.out HRK.out)
      obtain ⟨a, ha⟩ : ∃ a, a = s.at (s.asked + later) := ⟨_, rfl⟩
      have hal : 64 ≤ later → a = s.next := fun h => by rw [ha]; unfold One.at; rw [if_pos (by omega)]
      rw [← ha] at HLV HRL
      have HAL := Lib.hid hal
      clear ha hal
      go_wp2_with fail
      refine HLV.out.mono ?_
      rintro e w4 ⟨rfl, hb4⟩
      have HG4 := Lib.hid (HG.out.below hb4)
      have HX4 : Hid (Asks w4 (.slice Ax x.length cx) x) := Reads.below HX.out hb4
      have HQ4 := Lib.hid (bmore HQ.out hb4 HQ.out.size)
      have HW4 := Lib.hid (bmore hb.out hb4 (Hid.out hb).size)
      clear hb4 z0 z1 z2 z3
      obtain ⟨z0, z1, z2, z3⟩ := blk4 (HZ0.out.below HQ4.out)
      go_wp2_with fail
      refine (HRL.out _ HX4.out).mono ?_
      rintro e w5 ⟨rfl, hb5⟩
      have HAK := Lib.hid (asked_yes b g n l j lv k s _ (HG4.out.below hb5) HRK.out)
      have HQ5 := Lib.hid (bmore HQ4.out hb5 HQ4.out.size)
      have HW5 := Lib.hid (bmore HW4.out hb5 HW4.out.size)
      have t1 : (a != a) = false := by simp
      clear hb5
      go_wp2_with fail
      refine HAK.out.mono ?_
      rintro e w6 ⟨rfl, rfl⟩
      by_cases h64 : 64 ≤ later
      · have t2 : (a != s.next) = false := by rw [HAL.out h64]; simp
        go_wp2
        go_roundw
        case rel => exact ⟨k + 1, by omega, by go_num, HW5⟩
        case measure => simp [intOf]; omega
      · go_wp2
        go_roundw
        case rel => exact ⟨k + 1, by omega, by go_num, HW5⟩
        case measure => simp [intOf]; omega
    · obtain rfl : k = n := by omega
      have hln := HI2.out.len
      have HLN := Lib.hid (level_no b g k l j lv k later _ HG.out (by rw [hln]; exact decide_eq_false (by omega)))
      have HAN := Lib.hid (fun w hw => asked_no b g k l j lv (-1) w hw (by rw [hln]; exact decide_eq_false (by omega)))
      have HCN := Lib.hid (fun w hw => count_any b g k l j lv w hw)
      rw [hln] at HCN
      clear hln
      go_wp2_with fail
      refine HLN.out.mono ?_
      rintro e w3 ⟨rfl, rfl⟩
      go_wp2_with fail
      go_region_held3 (fun w' => w'.cell? ⟨w.heap.size, 0, none⟩ = some (.int .i64 (k : Int))) (first | assumption)
        (first
          | (go_at_call 13; refine (HAN.out _ (HG.out.drewN 1)).mono ?_; rintro e w4 ⟨rfl, rfl⟩)
          | (go_at_call 14; refine (HCN.out _ (HG.out.drewN 1)).mono ?_; rintro e w4 ⟨rfl, rfl⟩)
          | (go_at_call 8; refine (awake_any _).mono ?_; rintro e w5 ⟨rfl, hb5⟩; have z5 := (blk4 (HZ0.out.below (bmore (below_drewN HQ.out 1) hb5 (below_drewN HQ.out 1).size))).1; have HB5 := Lib.hid (bmore (below_drewN HQ.out 1) hb5 (below_drewN HQ.out 1).size); clear hb5))
      clear z0 z1 z2 z3 z5
      go_wp2
      go_ret
      exact ⟨rfl, HB0.out.trans (HB5.out.mono (by omega))⟩
end Go.Proofs.Ytbdnopimaofabaa
