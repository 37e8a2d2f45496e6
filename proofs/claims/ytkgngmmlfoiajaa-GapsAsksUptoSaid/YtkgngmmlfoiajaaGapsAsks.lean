/- gaps: the law GapsAsks. -/
import Derived.Test.YtkgngmmlfoiajaaGapsStep2
import Derived.Test.YtkgngmmlfoiajaaGapsPlain
namespace Go.Proofs.Ytkgngmmlfoiajaa
open Go.RowKit
set_option linter.unusedVariables false
set_option linter.unusedSimpArgs false

set_option maxRecDepth 100000 in
set_option maxHeartbeats 8000000 in
theorem gapsAsks_at (f lg : Int) (A : Option Addr) (n c : Nat) (ops : List OpD) (now most : Int) (w : World) (h : OpsIn w (.slice A n c) ops) (hl : n = ops.length) (hn : n ≤ 1048576) :
    Calls Try.prog 4 #[.agg #[.int .i64 f, .int .i64 lg, .slice A n c], .int .i64 now, .int .i64 most] w fun e w' => e = .returned (.bool true) ∧ Below w.heap.size w w' := by
  have hbz := Blk.new w #[.int .i64 f, .int .i64 lg, .slice A n c] 40
  have hba : Below w.heap.size w (w.alloc (.cells #[.int .i64 f, .int .i64 lg, .slice A n c] 40)) := (Below.refl _ w).alloc (Nat.le_refl _) _
  have HX := Lib.hid (h.below hba)
  have HL := Lib.hid hl
  obtain ⟨x0, x1, x2⟩ := blk3 hbz
  by_cases hz : RightZ f lg
  · have HRT := Lib.hid (right_yes f lg (.slice A n c) (w.alloc (.cells #[.int .i64 f, .int .i64 lg, .slice A n c] 40)) hz)
    have HLT := Lib.hid (fun w h => light_any f lg A n c ops w h hl hn)
    have HNW := Lib.hid (fun w => new_ok f lg w hz.1 hz.2.1 hz.2.2.1 hz.2.2.2)
    have HZ := Lib.hid hz
    obtain ⟨z1, z2, z3, z4⟩ := hz
    have HBZ := Lib.hid hbz
    have HBA := Lib.hid hba
    clear h hl hbz hba
    go_enter Try.func4, Try.ntmps4
    go_wp2_with fail
    generalize w.alloc (.cells #[.int .i64 f, .int .i64 lg, .slice A n c] 40) = wz at *
    refine HRT.out.mono ?_
    rintro e wa ⟨rfl, hba⟩
    have HXa := Lib.hid (HX.out.below hba)
    have HBa := Lib.hid (HBZ.out.below hba)
    have HBBa := Lib.hid (bmore HBA.out hba HBA.out.size)
    clear hba x0 x1 x2
    obtain ⟨x0, x1, x2⟩ := blk3 HBa.out
    go_wp2_with fail
    refine (HLT.out wa HXa.out).mono ?_
    rintro e w0 ⟨bo, rfl, hbo, hb0⟩
    have HX0 := Lib.hid (HXa.out.below hb0)
    have HB0 := Lib.hid (HBa.out.below hb0)
    have HBB0 := Lib.hid (bmore HBBa.out hb0 HBBa.out.size)
    have HBO := Lib.hid hbo
    clear hb0 hbo x0 x1 x2
    obtain ⟨x0, x1, x2⟩ := blk3 HB0.out
    have hw0 : w.heap.size < w0.heap.size := HB0.out.lt
    cases bo
    · go_wp2_with fail
      refine (awake_any _).mono ?_
      rintro e w2 ⟨rfl, hb2⟩
      have hq := bmore HBB0.out hb2 HBB0.out.size
      go_wp2
      go_ret
      exact ⟨rfl, hq⟩
    obtain ⟨ho1, ho2⟩ := HBO.out rfl
    have hn60 : n ≤ 60 := by rw [HL.out]; exact ho1
    have HOK := Lib.hid ho2
    clear ho1 ho2 HBO
    by_cases hn0 : now < 0
    · go_wp2_with fail
      refine (awake_any _).mono ?_
      rintro e w2 ⟨rfl, hb2⟩
      have hq := bmore HBB0.out hb2 HBB0.out.size
      go_wp2
      go_ret
      exact ⟨rfl, hq⟩
    have hn1 : 0 ≤ now := by omega
    by_cases hn2 : 1099511627776 < now
    · go_wp2_with fail
      refine (awake_any _).mono ?_
      rintro e w2 ⟨rfl, hb2⟩
      have hq := bmore HBB0.out hb2 HBB0.out.size
      go_wp2
      go_ret
      exact ⟨rfl, hq⟩
    have hn3 : now ≤ 1099511627776 := by omega
    clear hn0 hn2
    go_wp2_with fail
    refine (HNW.out w0).mono ?_
    rintro e w1 ⟨rfl, hg1, hb1⟩
    have HS1 : Hid (St w0 w1 w0.heap.size (.slice none 0 0) (.slice none 0 0) [] [] f lg) := ⟨hg1, (fun g hg => by cases hg), Nat.le_refl _, hb1, Reads.nil _ _, (fun g hg => by cases hg)⟩
    obtain ⟨b, hbb⟩ : ∃ b, b = w0.heap.size := ⟨_, rfl⟩
    have HBE := Lib.hid hbb
    rw [← hbb] at HS1 ⊢
    have B1 := Lib.hid (HB0.out.belowAt hb1 hw0)
    have hw1 : w.heap.size < w1.heap.size := B1.out.lt
    clear hg1 hb1 x0 x1 x2 hbb
    obtain ⟨x0, x1, x2⟩ := blk3 B1.out
    go_wp2_with fail
    clear x0 x1 x2
    go_loopw [9, 11, 57] (fun xv _ i wr => ∃ (k : Nat) (A1 : Option Addr) (c1 n1 : Nat) (l : List Hole) (v : Value), k ≤ n ∧ i = .int .i64 k ∧ xv = .slice A1 n1 c1 ∧ Hid (n1 = l.length) ∧ Hid (St w0 wr b v (.slice A1 n1 c1) l l f lg) ∧ Hid (Rl k l) ∧ n1 ≤ 40 * k) (fun _ _ i _ => n - (intOf i).toNat)
    case atStart => exact ⟨0, none, 0, 0, [], .slice none 0 0, by omega, rfl, rfl, rfl, HS1, rl_nil 0, by omega⟩
    case round =>
      obtain ⟨k, A1, c1, n1, l, v, hk, rfl, rfl, HN1, HS, HR, hnk⟩ := hrel
      by_cases hlt : k < n
      · obtain ⟨⟨kd, oa, ob, on, ov, ol⟩, ho⟩ : ∃ o, ops[k]? = some o := ⟨_, List.getElem?_eq_getElem (by rw [← HL.out]; exact hlt)⟩
        obtain ⟨pA, pc, hpv, -⟩ := (HX0.out.all _ (List.mem_of_getElem? ho)).rd.val
        have hpv : ov = .slice pA ol.length pc := hpv
        obtain ⟨pn, hpn⟩ : ∃ pn, pn = ol.length := ⟨_, rfl⟩
        rw [← hpn] at hpv
        subst hpv
        have HPN := Lib.hid hpn
        clear hpn
        have hxr := HX0.out.below HS.out.bel
        obtain ⟨g, p, c0, he, o0, o1, o2, o3, o4⟩ := hxr.at ho
        rw [← HL.out] at he
        cases he
        have hmem := List.mem_of_getElem? ho
        have hin := hxr.all _ hmem
        have hov := fun g hg h0 => (HX0.out.all _ hmem).rd.lt g hg h0
        have hok := HOK.out _ hmem
        have hbr := HB0.out.belowAt HS.out.bel hw0
        obtain ⟨x0, x1, x2⟩ := blk3 hbr
        have i1 : (0 : Int) ≤ (k : Int) := by omega
        have i2 : (k : Int) < (n : Int) := by omega
        have hwr : w.heap.size < wr.heap.size := hbr.lt
        have hbo : Below wr.heap.size wr (wr.alloc (.cells #[.int .i64 kd, .int .i64 oa, .int .i64 ob, .int .i64 on, .slice pA pn pc] 44)) := (Below.refl _ wr).alloc (Nat.le_refl _) _
        have hst := step_any w0 k b v (.slice A1 n1 c1) (.slice (some ⟨g, p, none⟩) n c) l f lg ⟨kd, oa, ob, on, .slice pA pn pc, ol⟩ _ (HS.out.below hbo) HR.out HZ.out (by rw [← HN1.out]; omega) (by omega) (hin.below hbo) hov
        have HST := Lib.hid hst
        have HRL := Lib.hid (stepL_rl HR.out HZ.out (o := ⟨kd, oa, ob, on, .slice pA pn pc, ol⟩))
        have HLE := Lib.hid (stepL_len HR.out HZ.out hok)
        generalize stepL l f lg ⟨kd, oa, ob, on, .slice pA pn pc, ol⟩ = l' at *
        clear ho hxr hmem hin hov hok hbr hbo hst
        go_wp2_with fail
        refine HST.out.mono ?_
        rintro e w2 ⟨v', yv, ok, rfl, hs2⟩
        obtain ⟨A2, c2, hyv, -⟩ := hs2.rd.val
        obtain ⟨n2, hn2⟩ : ∃ n2, n2 = l'.length := ⟨_, rfl⟩
        rw [← hn2] at hyv
        subst hyv
        have HS2 := Lib.hid hs2
        have HN2 := Lib.hid hn2
        have hle2 : n2 ≤ 40 * (k + 1) := by rw [HN2.out]; have := HLE.out; rw [← HN1.out] at this; omega
        clear hs2 hn2 o0 o1 o2 o3 o4 x0 x1 x2
        go_wp2
        go_roundw
        case rel => exact ⟨k + 1, A2, c2, n2, l', v', by omega, by go_num, rfl, HN2, HS2, HRL, hle2⟩
        case measure => simp [intOf]; omega
      · obtain rfl : k = n := by omega
        have hbelow : Below w.heap.size w wr := bmore HBB0.out HS.out.bel HBB0.out.size
        have HBB := Lib.hid hbelow
        have hl2400 : n1 ≤ 2400 := by omega
        obtain ⟨wq, hwq⟩ : ∃ wq : World, wq = wr := ⟨_, rfl⟩
        rw [← hwq] at HS HBB ⊢
        clear hbelow hwq
        obtain ⟨v0x, hv0x⟩ : ∃ v0x, v0x = v := ⟨_, rfl⟩
        have HK1 := Lib.hid (ask_any k b v l f lg now most wq HS.out.gp HR.out (by omega) (by rw [← HN1.out]; omega) (by omega) z4)
        have HSP := Lib.hid (askL_spec (now := now) (most := most) (lg := lg) HR.out)
        have HFW := Lib.hid (askL_few (now := now) (most := most) (lg := lg) (l := l))
        have HAG := Lib.hid (fun y u hy hu => askL_again (now := now) (most := most) (y := y) (u := u) HR.out (show 1 ≤ lg by omega) z4 hy hu)
        have HR2 := Lib.hid (askL_rl (now := now) (most := most) HR.out (show 1 ≤ lg by omega) z4)
        have HLN := Lib.hid (askL_len (now := now) (most := most) (lg := lg) (l := l))
        clear hv0x
        generalize askL now most lg l = R at *
        obtain ⟨R1, R2⟩ := R
        obtain ⟨n2, hn2e⟩ : ∃ n2, n2 = R2.length := ⟨_, rfl⟩
        have hfw : (n2 : Int) ≤ max most 0 ∧ n2 ≤ 16 := by rw [hn2e]; exact HFW.out
        obtain ⟨f1, f2⟩ := hfw
        have HN2 := Lib.hid hn2e
        have hak := HK1.out
        rw [show (R1, R2).2.length = n2 from hn2e.symm] at hak
        have HAK := Lib.hid hak
        have f3 : decide (max most 0 < (n2 : Int)) = false := decide_eq_false (by omega)
        have f4 : ¬ (max most 0 < (n2 : Int)) := by omega
        clear hn2e hak HK1 HFW
        go_wp2_with fail
        refine HAK.out.mono ?_
        rintro e w2 ⟨A2, c2, rfl, hg2, hr2, hk2⟩
        have HS2 := Lib.hid (HS.out.ask hg2 hk2)
        have hrd2 := Reads.of_owns hr2
        have hown2 : ∀ g, (Value.slice A2 n2 c2).ownBlock = some g → v.ownBlock ≠ some g := fun g hg e => by have := (HS.out.gp.ne e).2; have := (hr2.lt g hg).1; omega
        have HO2 := Lib.hid hown2
        have HRD2 := Lib.hid hrd2
        have HBB2 := Lib.hid (bmore HBB0.out HS2.out.bel HBB0.out.size)
        clear hg2 hr2 hk2 hrd2 hown2
        go_wp2_with fail
        clear f3 f4
        go_loopw [13, 15, 16, 17, 86] (fun la _ _ _ i wr => ∃ (k : Nat) (t : Int), k ≤ n2 ∧ i = .int .i64 k ∧ la = .int .i64 t ∧ Hid (∀ y, R2[k]? = some y → t < y.1) ∧ Hid (Below w2.heap.size w2 wr)) (fun _ _ _ _ i _ => n2 - (intOf i).toNat)
        case atStart => exact ⟨0, -1, by omega, rfl, rfl, (fun y hy => by have := (HSP.out.1.each y (List.mem_of_getElem? hy)).1; omega), Below.refl _ _⟩
        case round =>
          obtain ⟨k2, t, hk2, rfl, rfl, HLA, HB2⟩ := hrel
          by_cases hlt2 : k2 < n2
          · obtain ⟨y, hy⟩ : ∃ y, R2[k2]? = some y := ⟨_, List.getElem?_eq_getElem (by rw [← HN2.out]; exact hlt2)⟩
            obtain ⟨g1, p1, c1', he1, y0, y1⟩ := (HRD2.out.below HB2.out).pair hy
            cases he1
            obtain ⟨y3, y4, y5⟩ := HSP.out.1.each y (List.mem_of_getElem? hy)
            have y6 := HLA.out y hy
            have i1 : (0 : Int) ≤ (k2 : Int) := by omega
            have i2 : (k2 : Int) < (n2 : Int) := by omega
            have HCV := Lib.hid (HSP.out.2 y (List.mem_of_getElem? hy))
            have HNX : Hid (∀ y', R2[k2 + 1]? = some y' → y.2 < y'.1) := fun y' hy' => by
              have hr := HSP.out.1.rise
              rw [List.pairwise_iff_getElem] at hr
              obtain ⟨q1, rfl⟩ := List.getElem?_eq_some_iff.1 hy
              obtain ⟨q2, rfl⟩ := List.getElem?_eq_some_iff.1 hy'
              exact hr k2 (k2 + 1) q1 q2 (by omega)
            clear hy
            go_wp2_with fail
            have hby : Below w2.heap.size w2 (wr.alloc (.cells #[.int .i64 y.1, .int .i64 y.2] 36)) := bmore HB2.out ((Below.refl _ wr).alloc (Nat.le_refl _) _) HB2.out.size
            have hbk := Blk.new wr #[.int .i64 y.1, .int .i64 y.2] 36
            have HBY := Lib.hid hby
            have HBK := Lib.hid hbk
            clear hby hbk y0 y1
            generalize wr.alloc (.cells #[.int .i64 y.1, .int .i64 y.2] 36) = wy at *
            obtain ⟨w8, rfl⟩ : ∃ w8 : World, w8 = wr := ⟨_, rfl⟩
            go_loopw [16, 17] (fun i _ wi => ∃ x : Int, y.1 ≤ x ∧ x ≤ y.2 ∧ i = .int .i64 x ∧ wi = wy) (fun i _ _ => (y.2 - intOf i).toNat)
            case atStart => exact ⟨y.1, Int.le_refl _, by omega, rfl, by first | rfl | trivial⟩
            case round =>
              obtain ⟨x, hx1, hx2, rfl, rfl⟩ := hrel
              have e0 := HBK.out.cell 0 rfl
              have e1 := HBK.out.cell 1 rfl
              by_cases hx3 : x < y.2
              · obtain ⟨o, hom, hob, hod, -⟩ := HCV.out x hx1 hx3
                have hs3 := HS2.out.below HBY.out
                have hfd := rfind_any A1 c1 n1 l x wr (by rw [HN1.out]; rw [← HN1.out]; have := hs3.rd; rw [← HN1.out] at this; exact this) HN1.out (by omega)
                have HFD := Lib.hid hfd
                have HRD3 : Hid (Reads wr 4 (.slice A1 n1 c1) n1 (l.flatMap holeCells)) := by
                  show Reads _ _ _ _ _
                  have := hs3.rd
                  rw [← HN1.out] at this
                  exact this
                have HOM := Lib.hid hom
                have HOB := Lib.hid hob
                clear hfd hs3 hom hob
                go_wp2_with fail
                refine HFD.out.mono ?_
                rintro e w3 ⟨z, hz, rfl, rfl⟩
                have hzz : ∃ (q : Nat), z = q ∧ l[q]? = some o := by
                  rcases hz with ⟨q, o', rfl, h1, h2⟩ | ⟨-, h2⟩
                  · exact ⟨q, rfl, by rw [h1, rising_uniq HR.out.ris (List.mem_of_getElem? h1) HOM.out (h2.trans HOB.out.symm)]⟩
                  · exact absurd HOB.out (has_false.1 h2 o HOM.out)
                obtain ⟨q, rfl, hq⟩ := hzz
                obtain ⟨g3, p3, c3, he3, hcs⟩ := Reads.elem HRD3.out holeCells_len (by omega) hq
                have d1 := hcs 1 _ rfl
                cases he3
                have hql := (List.getElem?_eq_some_iff.1 hq).1
                rw [← HN1.out] at hql
                have j1 : (0 : Int) ≤ (q : Int) := by omega
                have j2 : (q : Int) < (n1 : Int) := by omega
                clear hz hq hcs hql
                go_wp2
                go_roundw
                case rel => exact ⟨x + 1, by omega, by omega, rfl, by first | rfl | trivial⟩
                case measure => simp [intOf]; omega
              · obtain rfl : x = y.2 := by omega
                go_wp2
                go_roundw
                case rel => exact ⟨k2 + 1, y.2, by omega, by go_num, rfl, HNX, HBY⟩
                case measure => simp [intOf]; omega
          · obtain rfl : k2 = n2 := by omega
            have HS3 := Lib.hid (HS2.out.below HB2.out)
            have HK3 := Lib.hid (ask_any (k + 1) b v R1 f lg now 16 _ HS3.out.gp HR2.out (by omega) (by have h1 : R1.length = l.length := HLN.out; have := HN1.out; omega) (by omega) z4)
            have HAG2 := Lib.hid (fun y u => HAG.out y u)
            have hfw3 := (askL_few (now := now) (most := 16) (lg := lg) (l := R1)).2
            generalize askL now 16 lg R1 = S at *
            obtain ⟨S1, S2⟩ := S
            obtain ⟨n3, hn3e⟩ : ∃ n3, n3 = S2.length := ⟨_, rfl⟩
            have hn16 : n3 ≤ 16 := by rw [hn3e]; exact hfw3
            clear hfw3
            have HN3 := Lib.hid hn3e
            have hak := HK3.out
            rw [show (S1, S2).2.length = n3 from hn3e.symm] at hak
            have HAK3 := Lib.hid hak
            have HRD3 := Lib.hid (HRD2.out.below HB2.out)
            clear hn3e hak HK3
            go_wp2_with fail
            refine HAK3.out.mono ?_
            rintro e w4 ⟨A4, c4, rfl, hg4, hr4, hk4⟩
            have HS4 := Lib.hid (HS3.out.ask hg4 hk4)
            have HRD4 := Lib.hid (Reads.of_owns hr4)
            have HRD5 := Lib.hid (HRD3.out.keep hk4 (fun g hg _ e => HO2.out g hg e))
            have HBB4 := Lib.hid (bmore HBB0.out HS4.out.bel HBB0.out.size)
            clear hg4 hr4 hk4
            go_wp2_with fail
            go_loopw [20, 22, 131, 137] (fun _ _ i _ wr => ∃ k3 : Nat, k3 ≤ n3 ∧ i = .int .i64 k3 ∧ Hid (Below w4.heap.size w4 wr)) (fun _ _ i _ _ => n3 - (intOf i).toNat)
            case atStart => exact ⟨0, by omega, rfl, Below.refl _ _⟩
            case round =>
              obtain ⟨k3, hk3, rfl, HB4⟩ := hrel
              by_cases hlt3 : k3 < n3
              · obtain ⟨y, hy⟩ : ∃ y, S2[k3]? = some y := ⟨_, List.getElem?_eq_getElem (by rw [← HN3.out]; exact hlt3)⟩
                obtain ⟨g1, p1, c1', he1, y0, y1⟩ := (HRD4.out.below HB4.out).pair hy
                cases he1
                have i1 : (0 : Int) ≤ (k3 : Int) := by omega
                have i2 : (k3 : Int) < (n3 : Int) := by omega
                have HYM := Lib.hid (List.mem_of_getElem? hy)
                clear hy
                go_wp2_with fail
                have hby : Below w4.heap.size w4 (wr.alloc (.cells #[.int .i64 y.1, .int .i64 y.2] 36)) := bmore HB4.out ((Below.refl _ wr).alloc (Nat.le_refl _) _) HB4.out.size
                have hbk := Blk.new wr #[.int .i64 y.1, .int .i64 y.2] 36
                have HBY := Lib.hid hby
                have HBK := Lib.hid hbk
                have hlt8 : wr.heap.size < (wr.alloc (.cells #[.int .i64 y.1, .int .i64 y.2] 36)).heap.size := by simp
                clear hby hbk y0 y1
                generalize wr.alloc (.cells #[.int .i64 y.1, .int .i64 y.2] 36) = wy at *
                obtain ⟨w8, rfl⟩ : ∃ w8 : World, w8 = wr := ⟨_, rfl⟩
                go_loopw [22, 137] (fun _ i wi => ∃ k4 : Nat, k4 ≤ k2 ∧ i = .int .i64 k4 ∧ Hid (Below wy.heap.size wy wi)) (fun _ i _ => k2 - (intOf i).toNat)
                case atStart => exact ⟨0, by omega, rfl, Below.refl _ _⟩
                case round =>
                  obtain ⟨k4, hk4', rfl, HB5⟩ := hrel
                  by_cases hlt4 : k4 < k2
                  · obtain ⟨u, hu⟩ : ∃ u, R2[k4]? = some u := ⟨_, List.getElem?_eq_getElem (by rw [← HN2.out]; exact hlt4)⟩
                    obtain ⟨g2, p2, c2', he2, u0, u1⟩ := ((HRD5.out.below HBY.out).below HB5.out).pair hu
                    cases he2
                    have hnot := HAG2.out y u HYM.out (List.mem_of_getElem? hu)
                    have hbk5 := HBK.out.belowAt HB5.out hlt8
                    obtain ⟨hbu, hbuw⟩ : ∃ W, W = wr.alloc (.cells #[.int .i64 u.1, .int .i64 u.2] 36) := ⟨_, rfl⟩
                    have hb6 : Below wr.heap.size wr hbu := by rw [hbuw]; exact (Below.refl _ wr).alloc (Nat.le_refl _) _
                    have hbk6 := hbk5.below hb6
                    have e0 := hbk6.cell 0 rfl
                    have e1 := hbk6.cell 1 rfl
                    have hlt9 : w8.heap.size < wr.heap.size := hbk5.lt
                    rw [hbuw] at e0 e1
                    have HB6 : Hid (Below wy.heap.size wy (wr.alloc (.cells #[.int .i64 u.1, .int .i64 u.2] 36))) := bmore HB5.out ((Below.refl _ wr).alloc (Nat.le_refl _) _) HB5.out.size
                    have i3 : (0 : Int) ≤ (k4 : Int) := by omega
                    have i4 : (k4 : Int) < (k2 : Int) := by omega
                    clear hu hbk5 hbk6 hb6 hbuw hbu
                    by_cases hc1 : y.1 < u.2
                    · have hc2 : ¬ u.1 < y.2 := fun h => hnot ⟨hc1, h⟩
                      clear hnot
                      go_wp2
                      go_roundw
                      case rel => exact ⟨k4 + 1, by omega, by go_num, HB6⟩
                      case measure => simp [intOf]; omega
                    · clear hnot
                      go_wp2
                      go_roundw
                      case rel => exact ⟨k4 + 1, by omega, by go_num, HB6⟩
                      case measure => simp [intOf]; omega
                  · obtain rfl : k4 = k2 := by omega
                    have HB7 : Hid (Below w4.heap.size w4 wr) := bmore HBY.out HB5.out HBY.out.size
                    go_wp2
                    go_roundw
                    case rel => exact ⟨k3 + 1, by omega, by go_num, HB7⟩
                    case measure => simp [intOf]; omega
              · obtain rfl : k3 = n3 := by omega
                go_wp2_with fail
                refine (awake_any _).mono ?_
                rintro e w9 ⟨rfl, hb9⟩
                have hq := bmore (bmore HBB4.out HB4.out HBB4.out.size) hb9 (Nat.le_trans HBB4.out.size HB4.out.size)
                go_wp2
                go_ret
                exact ⟨rfl, hq⟩
  · have HRN := Lib.hid (right_no f lg (.slice A n c) (w.alloc (.cells #[.int .i64 f, .int .i64 lg, .slice A n c] 40)) hz)
    have HBA := Lib.hid hba
    clear h hl hbz hba hz
    go_enter Try.func4, Try.ntmps4
    go_wp2_with fail
    refine HRN.out.mono ?_
    rintro e wa ⟨rfl, hba⟩
    have HBBa := Lib.hid (bmore HBA.out hba HBA.out.size)
    clear hba x0 x1 x2
    go_wp2_with fail
    refine (awake_any _).mono ?_
    rintro e w2 ⟨rfl, hb2⟩
    have hq := bmore HBBa.out hb2 HBBa.out.size
    go_wp2
    go_ret
    exact ⟨rfl, hq⟩
theorem gapsAsks_any (f lg : Int) (v : Value) (ops : List OpD) (now most : Int) (w : World) (h : OpsIn w v ops) :
    Calls Try.prog 4 #[.agg #[.int .i64 f, .int .i64 lg, v], .int .i64 now, .int .i64 most] w fun e w' => e = .returned (.bool true) ∧ Below w.heap.size w w' := by
  obtain ⟨A, c, rfl, -⟩ := h.rd.val
  exact gapsAsks_at f lg A ops.length c ops now most w h rfl h.le
end Go.Proofs.Ytkgngmmlfoiajaa
