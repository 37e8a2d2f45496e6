/- clr: the law ClrCopies. -/
import Derived.Test.YthnnhagccemnnaaClrPlays
import Derived.Test.YthnnhagccemnnaaClrCopy
namespace Go.Proofs.Ythnnhagccemnnaa
open Go.RowKit
set_option linter.unusedVariables false
set_option linter.unusedSimpArgs false

set_option maxRecDepth 100000 in
set_option maxHeartbeats 4000000 in
theorem clrCopies_yes (lim : Int) (A A' : Option Addr) (cc cc' : Nat) (ops ops' : List OpD) (w : World) (hx : Ops w (.slice A ops.length cc) ops) (hx' : Ops w (.slice A' ops'.length cc') ops') (hn : ops.length ≤ 50) (hn' : ops'.length ≤ 50) (h1 : 1 ≤ lim) (h2 : lim ≤ 1048576) :
    Calls Try.prog 6 #[.int .i64 lim, .slice A ops.length cc, .slice A' ops'.length cc'] w fun e w' => e = .returned (.bool true) ∧ Below w.heap.size w w' := by
  have HNW := Lib.hid (new_ok lim w h1 h2)
  have HLT := Lib.hid @later_any
  have HX : Hid (Ops w (.slice A ops.length cc) ops) := hx
  have HX' : Hid (Ops w (.slice A' ops'.length cc') ops') := hx'
  clear hx hx'
  obtain ⟨n, hnl⟩ : ∃ n, n = ops.length := ⟨_, rfl⟩
  have HNL := Lib.hid hnl
  rw [← hnl] at hn
  rw [← hnl]
  obtain ⟨n', hnl'⟩ : ∃ n, n = ops'.length := ⟨_, rfl⟩
  have HNL' := Lib.hid hnl'
  rw [← hnl'] at hn'
  rw [← hnl']
  clear hnl hnl'
  go_enter Try.func6, Try.ntmps6
  go_wp2_with fail
  refine HNW.out.mono ?_
  rintro e w1 ⟨b, v0, rfl, hk0, hlo, hv0, hb1⟩
  have HK0 := Lib.hid hk0
  have HV0 := Lib.hid hv0
  have HB1 := Lib.hid hb1
  clear hk0 hv0 hb1
  go_wp2_with (first
    | (refine wpList_buildS rfl rfl ?_)
    | (refine wpList_allocS rfl rfl ?_; rintro w4 - HZ4 HL4 hs4)
    | (refine wpList_storeS rfl _ _ rfl _ rfl (st0 (-1)) (st0 0) rfl ?_ ?_; exact HZ4.out; rintro w5 HB5 HK5))
  have H0 : Hid (AtS w w5 b v0 (st0 (-1)) lim w1.heap.size) := by
    have hne : b ≠ w1.heap.size := by have := HK0.out.str.lt; omega
    have hb5 := bkeep HL4.out HK5.out (Nat.le_refl _) (fun q e => by omega)
    exact ⟨HK0.out.below hb5, fun g hg => ⟨HV0.out g hg, by have := (HK0.out.ne hg).2; omega⟩, bmore HB1.out hb5 HB1.out.size, hlo, st0_ok, HB5.out, HB1.out.size, hne⟩
  clear HZ4 HL4 hs4 HB5 HK5 HK0 HV0 HB1
  generalize w1.heap.size = p7 at *
  go_loopw [10, 56] (fun nw i wr => ∃ k : Nat, k ≤ n ∧ i = .int .i64 k ∧ ∃ now : Int, nw = .int .i64 now ∧ 0 ≤ now ∧ now ≤ 1000 * k ∧ ∃ v s, Hid (AtS w wr b v s lim p7)) (fun _ i _ => n - (intOf i).toNat)
  case atStart => exact ⟨0, by omega, rfl, 0, rfl, by omega, by omega, v0, _, H0⟩
  case round =>
    obtain ⟨k, hk, rfl, now, rfl, q1, q2, v, s, HA⟩ := hrel
    by_cases hlt : k < n
    · skip
      obtain ⟨o, ho⟩ : ∃ o, ops[k]? = some o := ⟨_, List.getElem?_eq_getElem (by rw [← HNL.out]; exact hlt)⟩
      obtain ⟨g, p, c0, he, x0, x1, x2, x3, x4⟩ := Ops.at (Reads.below HX.out HA.out.bel) ho
      cases he
      have i1 : (0 : Int) ≤ (k : Int) := by omega
      have i2 : (k : Int) < (n : Int) := by omega
      have hlt' := HLT.out now o.later
      obtain ⟨n1, n2'⟩ := lat_bd (now := now) (b := o.later)
      generalize lat now o.later = nw at *
      have n2 : nw ≤ 1000 * ((k + 1 : Nat) : Int) := by omega
      have n1 : 0 ≤ nw := by omega
      have HLL := Lib.hid hlt'
      have hbo : Below wr.heap.size wr (wr.alloc (.cells #[.int .i64 o.kind, .int .i64 o.frm, .int .i64 o.ago, .int .i64 o.later, .int .u64 o.rate] 31)) := (Below.refl _ _).alloc (Nat.le_refl _) _
      have HBo := Lib.hid (Blk.new wr #[.int .i64 o.kind, .int .i64 o.frm, .int .i64 o.ago, .int .i64 o.later, .int .u64 o.rate] 31)
      have HA1 := Lib.hid (HA.out.below hbo)
      clear hlt' n2' ho hbo
      go_wp2_with fail
      generalize wr.alloc (.cells #[.int .i64 o.kind, .int .i64 o.frm, .int .i64 o.ago, .int .i64 o.later, .int .u64 o.rate] 31) = wo at *
      refine (HLL.out _ q1 (by omega)).mono ?_
      rintro e wo' ⟨rfl, rfl⟩
      clear x0 x1 x2 x3 x4
      obtain ⟨x0, x1, x2, x3, x4⟩ := blk5 HBo.out
      go_wp2_with (refine wpList_loadS rfl _ rfl _ rfl s ?_ ?_; exact HA1.out.bx)
      have hst := step_any b v s lim nw o.kind o.frm o.ago o.later o.rate wo HA1.out.bk HA1.out.ok (by omega) ⟨n1, by omega⟩
      unfold opC at hst
      refine hst.mono ?_
      rintro e w2 ⟨s2, rfl, hr2⟩
      have HR2 := Lib.hid hr2
      have HX2 := Lib.hid (HA1.out.box hr2)
      clear hr2 hst
      clear x0 x1 x2 x3 x4
      go_wp2_with (refine wpList_storeS rfl _ _ rfl _ rfl s2 s rfl ?_ ?_; exact HX2.out; rintro w9 HB9 HK9; obtain ⟨v2, hA9⟩ := HA1.out.step HR2.out HB9.out HK9.out; have HA9 := Lib.hid hA9; clear hA9 HB9 HK9)
      go_roundw
      case rel => exact ⟨k + 1, by omega, by go_num, nw, rfl, n1, n2, v2, s2, HA9⟩
      case measure => simp [intOf]; omega
    · obtain rfl : k = n := by omega
      obtain ⟨wm, hwm⟩ : ∃ wm : World, wm = wr := ⟨_, rfl⟩
      rw [← hwm] at HA ⊢
      clear hwm H0
      have hl64 := told_len s 64
      have HCP := Lib.hid (copy_any b v (told s 64) lim s.clr wm HA.out.bk (by omega))
      clear hl64
      go_wp2_with fail
      refine HCP.out.mono ?_
      rintro e w3 ⟨c, vc, rfl, hkc, hloc, hvc, hb3⟩
      have HKC := Lib.hid hkc
      have HVC := Lib.hid hvc
      have HB3 := Lib.hid hb3
      clear hkc hvc hb3 HCP
      have HA3 := Lib.hid (HA.out.below HB3.out)
      go_wp2_with (first
        | (refine wpList_loadS rfl _ rfl _ rfl s ?_ ?_; exact HA3.out.bx)
        | (refine wpList_allocS rfl rfl ?_; rintro w4 - HZ4 HL4 hs4)
        | (refine wpList_storeS rfl _ _ rfl _ rfl s (st0 0) rfl ?_ ?_; exact HZ4.out; rintro w6 HB5 HK5))
      have HC0 : Hid (AtS wm w6 c vc s lim w3.heap.size) := by
        have hne : c ≠ w3.heap.size := by have := HKC.out.str.lt; omega
        have hb5 := bkeep HL4.out HK5.out (Nat.le_refl _) (fun q e => by omega)
        exact ⟨HKC.out.below hb5, fun g hg => ⟨HVC.out g hg, by have := (HKC.out.ne hg).2; omega⟩, bmore HB3.out hb5 HB3.out.size, hloc, HA.out.ok, HB5.out, HB3.out.size, hne⟩
      clear HZ4 HL4 hs4 HB5 HK5 HKC HVC HA3
      have HWM : Hid (w.heap.size ≤ wm.heap.size) := HA.out.bel.size
      clear HB3
      generalize w3.heap.size = p14 at *
      go_loopw [10, 81] (fun nw i wr => ∃ k2 : Nat, k2 ≤ n' ∧ i = .int .i64 k2 ∧ ∃ now : Int, nw = .int .i64 now ∧ 0 ≤ now ∧ now ≤ 50000 + 1000 * k2 ∧ ∃ v s, Hid (AtS wm wr c v s lim p14)) (fun _ i _ => n' - (intOf i).toNat)
      case atStart => exact ⟨0, by omega, rfl, now, rfl, by omega, by omega, vc, _, HC0⟩
      case round =>
        clear q1 q2 hk
        obtain ⟨k, hk, rfl, now, rfl, q1, q2, vx, sx, HC⟩ := hrel
        by_cases hlt : k < n'
        · skip
          obtain ⟨o, ho⟩ : ∃ o, ops'[k]? = some o := ⟨_, List.getElem?_eq_getElem (by rw [← HNL'.out]; exact hlt)⟩
          obtain ⟨g, p, c0, he, x0, x1, x2, x3, x4⟩ := Ops.at (Reads.below HX'.out (bmore HA.out.bel HC.out.bel HWM.out)) ho
          cases he
          have i1 : (0 : Int) ≤ (k : Int) := by omega
          have i2 : (k : Int) < (n' : Int) := by omega
          have hlt' := HLT.out now o.later
          obtain ⟨n1, n2'⟩ := lat_bd (now := now) (b := o.later)
          generalize lat now o.later = nw at *
          have n2 : nw ≤ 50000 + 1000 * ((k + 1 : Nat) : Int) := by omega
          have n1 : 0 ≤ nw := by omega
          have HLL := Lib.hid hlt'
          have hbo : Below wr.heap.size wr (wr.alloc (.cells #[.int .i64 o.kind, .int .i64 o.frm, .int .i64 o.ago, .int .i64 o.later, .int .u64 o.rate] 31)) := (Below.refl _ _).alloc (Nat.le_refl _) _
          have HBo := Lib.hid (Blk.new wr #[.int .i64 o.kind, .int .i64 o.frm, .int .i64 o.ago, .int .i64 o.later, .int .u64 o.rate] 31)
          have HA1 := Lib.hid (HC.out.below hbo)
          clear hlt' n2' ho hbo
          go_wp2_with fail
          generalize wr.alloc (.cells #[.int .i64 o.kind, .int .i64 o.frm, .int .i64 o.ago, .int .i64 o.later, .int .u64 o.rate] 31) = wo at *
          refine (HLL.out _ q1 (by omega)).mono ?_
          rintro e wo' ⟨rfl, rfl⟩
          clear x0 x1 x2 x3 x4
          obtain ⟨x0, x1, x2, x3, x4⟩ := blk5 HBo.out
          go_wp2_with (refine wpList_loadS rfl _ rfl _ rfl sx ?_ ?_; exact HA1.out.bx)
          have hst := step_any c vx sx lim nw o.kind o.frm o.ago o.later o.rate wo HA1.out.bk HA1.out.ok (by omega) ⟨n1, by omega⟩
          unfold opC at hst
          refine hst.mono ?_
          rintro e w2 ⟨s2, rfl, hr2⟩
          have HR2 := Lib.hid hr2
          have HX2 := Lib.hid (HA1.out.box hr2)
          clear hr2 hst
          clear x0 x1 x2 x3 x4
          go_wp2_with (refine wpList_storeS rfl _ _ rfl _ rfl s2 sx rfl ?_ ?_; exact HX2.out; rintro w9 HB9 HK9; obtain ⟨v2, hA9⟩ := HA1.out.step HR2.out HB9.out HK9.out; have HA9 := Lib.hid hA9; clear hA9 HB9 HK9)
          go_roundw
          case rel => exact ⟨k + 1, by omega, by go_num, nw, rfl, n1, n2, v2, s2, HA9⟩
          case measure => simp [intOf]; omega
        · obtain rfl : k = n' := by omega
          obtain ⟨wb, hwb⟩ : ∃ wb : World, wb = wr := ⟨_, rfl⟩
          rw [← hwb] at HC ⊢
          clear hwb
          have HAF := Lib.hid (HA.out.below HC.out.bel)
          go_wp2_with (refine wpList_loadS rfl _ rfl _ rfl s ?_ ?_; exact HAF.out.bx)
          refine (same_any b v s lim wb HAF.out.bk HAF.out.ok.clr).mono ?_
          rintro e w7 ⟨rfl, hb7⟩
          have HB7 := Lib.hid hb7
          have HC7 := Lib.hid (HC.out.below hb7)
          clear hb7
          go_wp2_with (refine wpList_loadSg rfl _ rfl _ rfl sx ?_ ?_; exact HC7.out.bx)
          refine (same_any c vx sx lim w7 HC7.out.bk HC7.out.ok.clr).mono ?_
          rintro e w8 ⟨rfl, hb8⟩
          have HB8 := Lib.hid hb8
          clear hb8
          go_wp2_with fail
          refine (awake_any w8).mono ?_
          rintro e w9 ⟨rfl, hb9⟩
          have HB9 := Lib.hid (bmore (bmore (bmore HAF.out.bel HB7.out HAF.out.bel.size) HB8.out (Nat.le_trans HAF.out.bel.size HB7.out.size)) hb9 (Nat.le_trans HAF.out.bel.size (Nat.le_trans HB7.out.size HB8.out.size)))
          clear hb9
          go_wp2
          go_ret
          exact ⟨rfl, HB9.out⟩
theorem clrCopies_no (lim : Int) (A A' : Option Addr) (n n' c c' : Nat) (w : World) (h : 50 < n ∨ 50 < n') :
    Calls Try.prog 6 #[.int .i64 lim, .slice A n c, .slice A' n' c'] w fun e w' => e = .returned (.bool true) ∧ Below w.heap.size w w' := by
  rcases (by omega : 50 < n ∨ (n ≤ 50 ∧ 50 < n')) with g | ⟨g, g'⟩
  all_goals
    clear h
    go_enter Try.func6, Try.ntmps6
    go_wp2_with fail
    refine (awake_any _).mono ?_
    rintro e w2 ⟨rfl, hb2⟩
    go_wp2
    go_ret
    exact ⟨rfl, hb2⟩
theorem clrCopies_none (lim : Int) (A A' : Option Addr) (n n' c c' : Nat) (w : World) (h : n ≤ 50) (h' : n' ≤ 50) (hl : lim < 1 ∨ 1048576 < lim) :
    Calls Try.prog 6 #[.int .i64 lim, .slice A n c, .slice A' n' c'] w fun e w' => e = .returned (.bool true) ∧ Below w.heap.size w w' := by
  have HN := Lib.hid (new_no lim w hl)
  rcases (by omega : lim < 1 ∨ (1 ≤ lim ∧ 1048576 < lim)) with g | ⟨g, g'⟩
  all_goals
    clear hl
    go_enter Try.func6, Try.ntmps6
    go_wp2_with fail
    refine HN.out.mono ?_
    rintro e w1 ⟨rfl, rfl⟩
    go_wp2_with fail
    refine (awake_any _).mono ?_
    rintro e w2 ⟨rfl, hb2⟩
    go_wp2
    go_ret
    exact ⟨rfl, hb2⟩
end Go.Proofs.Ythnnhagccemnnaa
