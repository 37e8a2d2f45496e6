/- pipe: the law PipeCopies. -/
import Derived.Test.YtijmmmgmpfhgoaaPipeCopy
namespace Go.Proofs.Ytijmmmgmpfhgoaa
open Go.RowKit Go.Shelf
set_option linter.unusedVariables false
set_option linter.unusedSimpArgs false

set_option maxRecDepth 100000 in
set_option maxHeartbeats 4000000 in
theorem pipeCopies_yes (A A2 : Option Addr) (cc cc2 : Nat) (ops more : List OpD) (w : World) (hx : CaseOk w (.slice A ops.length cc) ops) (hs : decide ((lightN ops : Int) ≤ 120) = true) (hx2 : CaseOk w (.slice A2 more.length cc2) more) (hs2 : decide ((lightN more : Int) ≤ 120) = true) :
    Calls Try.prog 6 #[.slice A ops.length cc, .slice A2 more.length cc2] w fun e w' => e = .returned (.bool true) ∧ Below w.heap.size w w' := by
  have HSM := Lib.hid (small_any _ ops w hx)
  rw [hs] at HSM
  have HSM2 := Lib.hid (fun w' hb => small_any _ more w' (hx2.below hb))
  rw [hs2] at HSM2
  have HX := Lib.hid hx
  have HX2 := Lib.hid hx2
  have hn : ops.length ≤ 120 := by have := len_lightN ops; have := of_decide_eq_true hs; omega
  have hn2 : more.length ≤ 120 := by have := len_lightN more; have := of_decide_eq_true hs2; omega
  have HRR : Hid (0 ≤ (9 : Int) ∧ (9 : Int) ≤ 256) := ⟨by omega, by omega⟩
  obtain ⟨n, hnl⟩ : ∃ n, n = ops.length := ⟨_, rfl⟩
  have HNL := Lib.hid hnl
  obtain ⟨n2, hnl2⟩ : ∃ n, n = more.length := ⟨_, rfl⟩
  have HNL2 := Lib.hid hnl2
  rw [← hnl] at hn HSM ⊢
  rw [← hnl2] at hn2 HSM2 ⊢
  clear hnl hx hs hnl2 hx2 hs2
  go_enter Try.func6, Try.ntmps6
  go_wp2_with fail
  refine HSM.out.mono ?_
  rintro e w1a ⟨rfl, hb1a⟩
  have HB1a := Lib.hid hb1a
  clear hb1a
  go_wp2_with fail
  refine (HSM2.out w1a HB1a.out).mono ?_
  rintro e w1 ⟨rfl, hb1⟩
  have HB1 := Lib.hid (bmore HB1a.out hb1 HB1a.out.size)
  clear hb1
  go_wp2_with fail
  refine (new_ok (R := NoR) 9 w1 (by omega) (by omega)).mono ?_
  rintro e w2 ⟨b, rfl, hp2, hb2⟩
  have H0 := Lib.hid (PS.new hp2 hb2 HRR.out (fun _ h => h.elim))
  clear hp2 hb2
  go_wp2_with fail
  go_loopw [7, 9, 36] (fun x _ i wr => ∃ k : Nat, k ≤ n ∧ i = .int .i64 k ∧ ∃ X, Hid (PS NoR w1 wr b 9 x X)) (fun _ _ i _ => n - (intOf i).toNat)
  case atStart => exact ⟨0, by omega, rfl, _, H0⟩
  case round =>
    obtain ⟨k, hk, rfl, X, HA⟩ := hrel
    by_cases hlt : k < n
    · obtain ⟨o, g, p, c', ho, hook, he, x0, x1, x2, x3⟩ := (HX.out.below (bmore HB1.out HA.out.bel HB1.out.size)).at (by rw [← HNL.out]; exact hlt)
      cases he
      obtain ⟨A', k', hv, -⟩ := hook.text.val
      rw [hv] at x3
      have i1 : (0 : Int) ≤ (k : Int) := by omega
      have i2 : (k : Int) < (n : Int) := by omega
      have hbo : Below wr.heap.size wr (wr.alloc (.cells #[.int .i64 o.kind, .int .i64 o.at', .int .i64 o.n, .slice A' o.text.length k'] 35)) := (Below.refl _ _).alloc (Nat.le_refl _) _
      have HBo := Lib.hid (Blk.new wr #[.int .i64 o.kind, .int .i64 o.at', .int .i64 o.n, .slice A' o.text.length k'] 35)
      have HA1 := Lib.hid (HA.out.below hbo)
      have HT1 : Hid (Reads (wr.alloc (.cells #[.int .i64 o.kind, .int .i64 o.at', .int .i64 o.n, .slice A' o.text.length k'] 35)) 1 (.slice A' o.text.length k') o.text.length (u8s o.text)) := by
        have h := (hook.below hbo).text
        rw [hv] at h
        exact h
      have HLN : Hid (o.text.length ≤ 1048576) := hook.len
      obtain ⟨⟨G, v, l, hSI, hGlo⟩, hbel⟩ := HA.out
      have HSI1 := Lib.hid (hSI.below hbo)
      have HGL := Lib.hid hGlo
      clear hbo ho hook hv hSI hGlo hbel
      go_wp2_with fail
      generalize wr.alloc (.cells #[.int .i64 o.kind, .int .i64 o.at', .int .i64 o.n, .slice A' o.text.length k'] 35) = wo at *
      refine (step_any b v l 9 o.kind o.at' o.n _ X A' o.text.length k' o.text wo HSI1.out HT1.out rfl HLN.out).mono ?_
      rintro e w3 ⟨xv', X', rfl, hst⟩
      have HA3 := Lib.hid (PS.step (fun _ h => h.elim) HA1.out.bel HGL.out HRR.out hst)
      clear hst x0 x1 x2 x3
      go_wp2_with fail
      go_roundw
      case rel => exact ⟨k + 1, by omega, by go_num, X', HA3⟩
      case measure => simp [intOf]; omega
    · obtain rfl : k = n := by omega
      obtain ⟨w0, hw0⟩ : ∃ w0 : World, w0 = wr := ⟨_, rfl⟩
      rw [← hw0] at HA ⊢
      clear hw0
      obtain ⟨⟨G, v, l, hSI, hGlo⟩, hbel⟩ := HA.out
      have HSI := Lib.hid hSI
      have HBL := Lib.hid (bmore HB1.out hbel HB1.out.size)
      have hll := hSI.len
      have HLL : Hid (l.length ≤ 100000) := by show _ ≤ _; omega
      clear hSI hGlo hbel HA hll
      go_wp2_with fail
      refine (copy_any b v l 9 w0 HSI.out.at_ HLL.out).mono ?_
      rintro e w3 ⟨c, cv, rfl, hp3, hb3⟩
      have HC0 : Hid (PS (fun q => q < w0.heap.size) w0 w3 c 9 _ X) :=
        ⟨⟨fun q => w0.heap.size ≤ q ∧ q < w3.heap.size, cv, l, ⟨hp3.mono (fun q hq hl => ⟨hq, hl⟩), fun q hq => hq.2, (HSI.out.below hb3).row, fun g hg hq => by have := (HSI.out.row.lt g hg).2; omega, HSI.out.rel, HSI.out.len, HRR.out, fun q hq => Nat.lt_of_lt_of_le hq hb3.size⟩, fun q hq => hq.1⟩, hb3⟩
      clear hp3 hb3
      go_wp2_with fail
      go_loopw [11, 13, 14, 55] (fun y _ _ i wr => ∃ k : Nat, k ≤ n2 ∧ i = .int .i64 k ∧ ∃ Y, Hid (PS (fun q => q < w0.heap.size) w0 wr c 9 y Y)) (fun _ _ _ i _ => n2 - (intOf i).toNat)
      case atStart => exact ⟨0, by omega, rfl, _, HC0⟩
      case round =>
        obtain ⟨k, hk, rfl, Y, HA⟩ := hrel
        by_cases hlt : k < n2
        · obtain ⟨o, g, p, c', ho, hook, he, x0, x1, x2, x3⟩ := (HX2.out.below (bmore HBL.out HA.out.bel HBL.out.size)).at (by rw [← HNL2.out]; exact hlt)
          cases he
          obtain ⟨A', k', hv, -⟩ := hook.text.val
          rw [hv] at x3
          have i1 : (0 : Int) ≤ (k : Int) := by omega
          have i2 : (k : Int) < (n2 : Int) := by omega
          have hbo : Below wr.heap.size wr (wr.alloc (.cells #[.int .i64 o.kind, .int .i64 o.at', .int .i64 o.n, .slice A' o.text.length k'] 35)) := (Below.refl _ _).alloc (Nat.le_refl _) _
          have HBo := Lib.hid (Blk.new wr #[.int .i64 o.kind, .int .i64 o.at', .int .i64 o.n, .slice A' o.text.length k'] 35)
          have HA1 := Lib.hid (HA.out.below hbo)
          have HT1 : Hid (Reads (wr.alloc (.cells #[.int .i64 o.kind, .int .i64 o.at', .int .i64 o.n, .slice A' o.text.length k'] 35)) 1 (.slice A' o.text.length k') o.text.length (u8s o.text)) := by
            have h := (hook.below hbo).text
            rw [hv] at h
            exact h
          have HLN : Hid (o.text.length ≤ 1048576) := hook.len
          obtain ⟨⟨G2, v2, l2, hSI, hGlo⟩, hbel⟩ := HA.out
          have HSI1 := Lib.hid (hSI.below hbo)
          have HGL := Lib.hid hGlo
          clear hbo ho hook hv hSI hGlo hbel
          go_wp2_with fail
          generalize wr.alloc (.cells #[.int .i64 o.kind, .int .i64 o.at', .int .i64 o.n, .slice A' o.text.length k'] 35) = wo at *
          refine (step_any c v2 l2 9 o.kind o.at' o.n _ Y A' o.text.length k' o.text wo HSI1.out HT1.out rfl HLN.out).mono ?_
          rintro e w4 ⟨xv', Y', rfl, hst⟩
          have HA3 := Lib.hid (PS.step HSI1.out.rlt HA1.out.bel HGL.out HRR.out hst)
          clear hst x0 x1 x2 x3
          go_wp2_with fail
          go_roundw
          case rel => exact ⟨k + 1, by omega, by go_num, Y', HA3⟩
          case measure => simp [intOf]; omega
        · obtain rfl : k = n2 := by omega
          obtain ⟨wb, hwb⟩ : ∃ wb : World, wb = wr := ⟨_, rfl⟩
          rw [← hwb] at HA ⊢
          clear hwb
          obtain ⟨⟨G2, v2, l2, hSI2, -⟩, hbel⟩ := HA.out
          have HSI2 := Lib.hid hSI2
          have HSIp := Lib.hid (HSI.out.below hbel)
          have HBLb := Lib.hid (bmore HBL.out hbel HBL.out.size)
          clear hSI2 hbel
          go_wp2_with fail
          refine (same_any b v l 9 50 _ X wb HSIp.out).mono ?_
          rintro e w5 ⟨rfl, hb5⟩
          have HS5 := Lib.hid (HSI2.out.below hb5)
          have HB5 := Lib.hid (bmore HBLb.out hb5 HBLb.out.size)
          clear hb5
          go_wp2_with fail
          refine (same_any c v2 l2 9 50 _ Y w5 HS5.out).mono ?_
          rintro e w6 ⟨rfl, hb6⟩
          have HB6 := Lib.hid (bmore HB5.out hb6 HB5.out.size)
          clear hb6
          go_wp2_with fail
          refine (awake_any w6).mono ?_
          rintro e w7 ⟨rfl, hb7⟩
          have HB7 := Lib.hid (bmore HB6.out hb7 HB6.out.size)
          clear hb7
          go_wp2
          go_ret
          exact ⟨rfl, HB7.out⟩
set_option maxRecDepth 100000 in
theorem pipeCopies_any (v v2 : Value) (ops more : List OpD) (w : World) (hx : CaseOk w v ops) (hx2 : CaseOk w v2 more) :
    Calls Try.prog 6 #[v, v2] w fun e w' => e = .returned (.bool true) ∧ Below w.heap.size w w' := by
  obtain ⟨A, k0, rfl, -⟩ := hx.reads.val
  obtain ⟨A2, k2, rfl, -⟩ := hx2.reads.val
  have HSM := Lib.hid (small_any _ ops w hx)
  have HSM2 := Lib.hid (fun w' hb => small_any _ more w' (hx2.below hb))
  cases hs : decide ((lightN ops : Int) ≤ 120) with
  | false =>
    obtain ⟨n, hnl⟩ : ∃ n, n = ops.length := ⟨_, rfl⟩
    obtain ⟨n2, hnl2⟩ : ∃ n, n = more.length := ⟨_, rfl⟩
    rw [← hnl] at HSM ⊢
    rw [← hnl2]
    rw [hs] at HSM
    clear hnl hnl2 hx hx2 hs HSM2
    go_enter Try.func6, Try.ntmps6
    go_wp2_with fail
    refine HSM.out.mono ?_
    rintro e w1 ⟨rfl, hb1⟩
    have HB1 := Lib.hid hb1
    clear hb1
    go_wp2_with fail
    refine (awake_any _).mono ?_
    rintro e w2 ⟨rfl, hb2⟩
    have HB2 := Lib.hid (bmore HB1.out hb2 HB1.out.size)
    clear hb2
    go_wp2
    go_ret
    exact ⟨rfl, HB2.out⟩
  | true =>
    cases hs2 : decide ((lightN more : Int) ≤ 120) with
    | true => exact pipeCopies_yes A A2 k0 k2 ops more w hx hs hx2 hs2
    | false =>
      obtain ⟨n, hnl⟩ : ∃ n, n = ops.length := ⟨_, rfl⟩
      obtain ⟨n2, hnl2⟩ : ∃ n, n = more.length := ⟨_, rfl⟩
      rw [← hnl] at HSM ⊢
      rw [← hnl2] at HSM2 ⊢
      rw [hs] at HSM
      rw [hs2] at HSM2
      clear hnl hnl2 hx hx2 hs hs2
      go_enter Try.func6, Try.ntmps6
      go_wp2_with fail
      refine HSM.out.mono ?_
      rintro e w1a ⟨rfl, hb1a⟩
      have HB1a := Lib.hid hb1a
      clear hb1a
      go_wp2_with fail
      refine (HSM2.out w1a HB1a.out).mono ?_
      rintro e w1 ⟨rfl, hb1⟩
      have HB1 := Lib.hid (bmore HB1a.out hb1 HB1a.out.size)
      clear hb1
      go_wp2_with fail
      refine (awake_any _).mono ?_
      rintro e w2 ⟨rfl, hb2⟩
      have HB2 := Lib.hid (bmore HB1.out hb2 HB1.out.size)
      clear hb2
      go_wp2
      go_ret
      exact ⟨rfl, HB2.out⟩
end Go.Proofs.Ytijmmmgmpfhgoaa
