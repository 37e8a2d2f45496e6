/- gaps: the law GapsTired. -/
import Derived.Test.YtkgngmmlfoiajaaGapsSame
namespace Go.Proofs.Ytkgngmmlfoiajaa
open Go.RowKit
set_option linter.unusedVariables false
set_option linter.unusedSimpArgs false

set_option maxRecDepth 100000 in
set_option maxHeartbeats 8000000 in
theorem gapsTired_at (f lg : Int) (A : Option Addr) (n c : Nat) (ops : List OpD) (tries : Int) (w : World) (h : OpsIn w (.slice A n c) ops) (hl : n = ops.length) (hn : n ≤ 1048576) :
    Calls Try.prog 5 #[.agg #[.int .i64 f, .int .i64 lg, .slice A n c], .int .i64 tries] w fun e w' => e = .returned (.bool true) ∧ Below w.heap.size w w' := by
  have hbz := Blk.new w #[.int .i64 f, .int .i64 lg, .slice A n c] 40
  have hba : Below w.heap.size w (w.alloc (.cells #[.int .i64 f, .int .i64 lg, .slice A n c] 40)) := (Below.refl _ w).alloc (Nat.le_refl _) _
  have HX := Lib.hid (h.below hba)
  have HL := Lib.hid hl
  obtain ⟨x0, x1, x2⟩ := blk3 hbz
  by_cases hz : RightZ f lg
  · have HRT := Lib.hid (right_yes f lg (.slice A n c) (w.alloc (.cells #[.int .i64 f, .int .i64 lg, .slice A n c] 40)) hz)
    have HLT := Lib.hid (fun w h => light_any f lg A n c ops w h hl hn)
    have HNW := Lib.hid (fun w => new_ok f lg w hz.1 hz.2.1 hz.2.2.1 hz.2.2.2)
    have HZ := Lib.hid hz
    obtain ⟨z1, z2, z3, z4⟩ := hz
    have HBZ := Lib.hid hbz
    have HBA := Lib.hid hba
    clear h hl hbz hba
    go_enter Try.func5, Try.ntmps5
    go_wp2_with fail
    generalize w.alloc (.cells #[.int .i64 f, .int .i64 lg, .slice A n c] 40) = wz at *
    refine HRT.out.mono ?_
    rintro e wa ⟨rfl, hba⟩
    have HXa := Lib.hid (HX.out.below hba)
    have HBa := Lib.hid (HBZ.out.below hba)
    have HBBa := Lib.hid (bmore HBA.out hba HBA.out.size)
    clear hba x0 x1 x2
    obtain ⟨x0, x1, x2⟩ := blk3 HBa.out
    go_wp2_with fail
    refine (HLT.out wa HXa.out).mono ?_
    rintro e w0 ⟨bo, rfl, hbo, hb0⟩
    have HX0 := Lib.hid (HXa.out.below hb0)
    have HB0 := Lib.hid (HBa.out.below hb0)
    have HBB0 := Lib.hid (bmore HBBa.out hb0 HBBa.out.size)
    have HBO := Lib.hid hbo
    clear hb0 hbo x0 x1 x2
    obtain ⟨x0, x1, x2⟩ := blk3 HB0.out
    have hw0 : w.heap.size < w0.heap.size := HB0.out.lt
    cases bo
    · go_wp2_with fail
      refine (awake_any _).mono ?_
      rintro e w2 ⟨rfl, hb2⟩
      have hq := bmore HBB0.out hb2 HBB0.out.size
      go_wp2
      go_ret
      exact ⟨rfl, hq⟩
    obtain ⟨ho1, ho2⟩ := HBO.out rfl
    have hn60 : n ≤ 60 := by rw [HL.out]; exact ho1
    have HOK := Lib.hid ho2
    clear ho1 ho2 HBO

    go_wp2_with fail
    refine (HNW.out w0).mono ?_
    rintro e w1 ⟨rfl, hg1, hb1⟩
    have HS1 : Hid (St w0 w1 w0.heap.size (.slice none 0 0) (.slice none 0 0) [] [] f lg) := ⟨hg1, (fun g hg => by cases hg), Nat.le_refl _, hb1, Reads.nil _ _, (fun g hg => by cases hg)⟩
    obtain ⟨b, hbb⟩ : ∃ b, b = w0.heap.size := ⟨_, rfl⟩
    have HBE := Lib.hid hbb
    rw [← hbb] at HS1 ⊢
    have B1 := Lib.hid (HB0.out.belowAt hb1 hw0)
    have hw1 : w.heap.size < w1.heap.size := B1.out.lt
    clear hg1 hb1 x0 x1 x2 hbb
    obtain ⟨x0, x1, x2⟩ := blk3 B1.out
    go_wp2_with fail
    clear x0 x1 x2
    go_loopw [7, 9, 43] (fun xv _ i wr => ∃ (k : Nat) (A1 : Option Addr) (c1 n1 : Nat) (l : List Hole) (v : Value), k ≤ n ∧ i = .int .i64 k ∧ xv = .slice A1 n1 c1 ∧ Hid (n1 = l.length) ∧ Hid (St w0 wr b v (.slice A1 n1 c1) l l f lg) ∧ Hid (Rl k l) ∧ n1 ≤ 40 * k) (fun _ _ i _ => n - (intOf i).toNat)
    case atStart => exact ⟨0, none, 0, 0, [], .slice none 0 0, by omega, rfl, rfl, rfl, HS1, rl_nil 0, by omega⟩
    case round =>
      obtain ⟨k, A1, c1, n1, l, v, hk, rfl, rfl, HN1, HS, HR, hnk⟩ := hrel
      by_cases hlt : k < n
      · obtain ⟨⟨kd, oa, ob, on, ov, ol⟩, ho⟩ : ∃ o, ops[k]? = some o := ⟨_, List.getElem?_eq_getElem (by rw [← HL.out]; exact hlt)⟩
        obtain ⟨pA, pc, hpv, -⟩ := (HX0.out.all _ (List.mem_of_getElem? ho)).rd.val
        have hpv : ov = .slice pA ol.length pc := hpv
        obtain ⟨pn, hpn⟩ : ∃ pn, pn = ol.length := ⟨_, rfl⟩
        rw [← hpn] at hpv
        subst hpv
        have HPN := Lib.hid hpn
        clear hpn
        have hxr := HX0.out.below HS.out.bel
        obtain ⟨g, p, c0, he, o0, o1, o2, o3, o4⟩ := hxr.at ho
        rw [← HL.out] at he
        cases he
        have hmem := List.mem_of_getElem? ho
        have hin := hxr.all _ hmem
        have hov := fun g hg h0 => (HX0.out.all _ hmem).rd.lt g hg h0
        have hok := HOK.out _ hmem
        have hbr := HB0.out.belowAt HS.out.bel hw0
        obtain ⟨x0, x1, x2⟩ := blk3 hbr
        have i1 : (0 : Int) ≤ (k : Int) := by omega
        have i2 : (k : Int) < (n : Int) := by omega
        have hwr : w.heap.size < wr.heap.size := hbr.lt
        have hbo : Below wr.heap.size wr (wr.alloc (.cells #[.int .i64 kd, .int .i64 oa, .int .i64 ob, .int .i64 on, .slice pA pn pc] 44)) := (Below.refl _ wr).alloc (Nat.le_refl _) _
        have hst := step_any w0 k b v (.slice A1 n1 c1) (.slice (some ⟨g, p, none⟩) n c) l f lg ⟨kd, oa, ob, on, .slice pA pn pc, ol⟩ _ (HS.out.below hbo) HR.out HZ.out (by rw [← HN1.out]; omega) (by omega) (hin.below hbo) hov
        have HST := Lib.hid hst
        have HRL := Lib.hid (stepL_rl HR.out HZ.out (o := ⟨kd, oa, ob, on, .slice pA pn pc, ol⟩))
        have HLE := Lib.hid (stepL_len HR.out HZ.out hok)
        generalize stepL l f lg ⟨kd, oa, ob, on, .slice pA pn pc, ol⟩ = l' at *
        clear ho hxr hmem hin hov hok hbr hbo hst
        go_wp2_with fail
        refine HST.out.mono ?_
        rintro e w2 ⟨v', yv, ok, rfl, hs2⟩
        obtain ⟨A2, c2, hyv, -⟩ := hs2.rd.val
        obtain ⟨n2, hn2⟩ : ∃ n2, n2 = l'.length := ⟨_, rfl⟩
        rw [← hn2] at hyv
        subst hyv
        have HS2 := Lib.hid hs2
        have HN2 := Lib.hid hn2
        have hle2 : n2 ≤ 40 * (k + 1) := by rw [HN2.out]; have := HLE.out; rw [← HN1.out] at this; omega
        clear hs2 hn2 o0 o1 o2 o3 o4 x0 x1 x2
        go_wp2
        go_roundw
        case rel => exact ⟨k + 1, A2, c2, n2, l', v', by omega, by go_num, rfl, HN2, HS2, HRL, hle2⟩
        case measure => simp [intOf]; omega
      · obtain rfl : k = n := by omega
        have hbelow : Below w.heap.size w wr := bmore HBB0.out HS.out.bel HBB0.out.size
        have HBB := Lib.hid hbelow
        have hl2400 : n1 ≤ 2400 := by omega
        obtain ⟨wq, hwq⟩ : ∃ wq : World, wq = wr := ⟨_, rfl⟩
        rw [← hwq] at HS HBB ⊢
        clear hbelow hwq
        have HCP := Lib.hid (copy_any b v l f lg wq HS.out.gp (by rw [← HN1.out]; omega))
        have HTD := Lib.hid (fun w h => tired_any b v l f lg tries w h (by rw [← HN1.out]; omega))
        have HSM := Lib.hid (fun w h1 h2 => same_yes b v A1 c1 n1 l f lg w h1 h2 HN1.out (by omega))
        have HTL := Lib.hid (tired_len tries l)
        have HRI := Lib.hid HR.out.ris
        obtain ⟨q, hq⟩ : ∃ q, q = (tiredL tries l).length := ⟨_, rfl⟩
        have HQ := Lib.hid hq
        have hq1 : q ≤ n1 := by rw [hq, HN1.out]; exact tired_len tries l
        have htd := HTD.out
        rw [← hq] at htd
        have HTD2 := Lib.hid htd
        clear hq htd HTD
        go_wp2_with fail
        refine HCP.out.mono ?_
        rintro e w2 ⟨cb, cv, rfl, hcg, hcb, hcv, hb2⟩
        have HS2 := Lib.hid (HS.out.below hb2)
        have HC2 := Lib.hid hcg
        have HCV := Lib.hid hcv
        have HB2 := Lib.hid hb2
        clear hcg hcv hb2
        go_wp2_with fail
        refine (HTD2.out w2 HS2.out.gp).mono ?_
        rintro e w3 ⟨A3, c3, rfl, ho3, hb3⟩
        have HS3 := Lib.hid (HS2.out.below hb3)
        have HC3 := Lib.hid (HC2.out.below hb3)
        have HT3 := Lib.hid (Reads.of_owns ho3)
        have HB3 := Lib.hid (bmore HB2.out hb3 HB2.out.size)
        have HO3 := Lib.hid ho3.lt
        have HCB := Lib.hid (fun g hg => (HC2.out.ne (g := g) hg).2)
        have hcb2 : cb < w2.heap.size := HC2.out.str.lt
        have hs23 : w2.heap.size ≤ w3.heap.size := hb3.size
        clear ho3 hb3
        go_wp2_with fail
        go_loopw [11, 14, 65] (fun kk _ i wr => ∃ (k2 m : Nat), k2 ≤ n1 ∧ m ≤ k2 ∧ i = .int .i64 k2 ∧ kk = .int .i64 m ∧ Hid (m = (tiredL tries (l.take k2)).length) ∧ Hid (Below w3.heap.size w3 wr)) (fun _ _ i _ => n1 - (intOf i).toNat)
        case atStart => exact ⟨0, 0, by omega, by omega, rfl, rfl, rfl, Below.refl _ _⟩
        case round =>
          obtain ⟨k2, m, hk2, hmk, rfl, rfl, HM, HB4⟩ := hrel
          by_cases hlt2 : k2 < n1
          · obtain ⟨o, ho⟩ : ∃ o, l[k2]? = some o := ⟨_, List.getElem?_eq_getElem (by rw [← HN1.out]; exact hlt2)⟩
            have hrd := (HS3.out.below HB4.out).rd
            rw [← HN1.out] at hrd
            obtain ⟨g1, p1, c1', he1, hcs1⟩ := Reads.elem hrd holeCells_len (by omega) ho
            have a0 := hcs1 0 _ rfl
            have a1 := hcs1 1 _ rfl
            have a2 := hcs1 2 _ rfl
            have a3 := hcs1 3 _ rfl
            simp only [Nat.add_zero] at a0
            cases he1
            have i1 : (0 : Int) ≤ (k2 : Int) := by omega
            have i2 : (k2 : Int) < (n1 : Int) := by omega
            have hbo : Below w3.heap.size w3 (wr.alloc (.cells #[.int .i64 o.block, .int .i64 o.due, .int .i64 o.wait, .int .i64 o.tries] 49)) := bmore HB4.out ((Below.refl _ wr).alloc (Nat.le_refl _) _) HB4.out.size
            have hbk := Blk.new wr #[.int .i64 o.block, .int .i64 o.due, .int .i64 o.wait, .int .i64 o.tries] 49
            have HBO := Lib.hid hbo
            by_cases ht : tries ≤ o.tries
            · have hget := tired_get ho ht
              rw [← HM.out] at hget
              have hmq : m < q := by rw [HQ.out]; exact (List.getElem?_eq_some_iff.1 hget).1
              have htr := HT3.out.below hbo
              have hgm : ((tiredL tries l).map (Value.int .i64))[m]? = some (.int .i64 o.block) := by rw [List.getElem?_map, hget]; rfl
              obtain ⟨g4, p4, c4, he4, b0⟩ := htr.at m _ hgm
              cases he4
              have e0 := hbk.cell 0 rfl
              have i3 : (0 : Int) ≤ (m : Int) := by omega
              have i4 : (m : Int) < (q : Int) := by omega
              have y0 : (o.block == o.block) = true := by simp
              have HM2 : Hid (m + 1 = (tiredL tries (l.take (k2 + 1))).length) := by show _ = _; rw [tired_yes ho ht, List.length_append, ← HM.out]; rfl
              have hlq : wr.heap.size < (wr.alloc (.cells #[.int .i64 o.block, .int .i64 o.due, .int .i64 o.wait, .int .i64 o.tries] 49)).heap.size := by simp
              clear ho hrd hcs1 hbo hbk hget htr hgm
              go_wp2_with fail
              go_quiet (fail)
              go_wp2
              go_roundw
              case rel => exact ⟨k2 + 1, m + 1, by omega, by omega, by go_num, by go_num, HM2, Lib.hid (below_drewN HBO.out nq)⟩
              case measure => simp [intOf]; omega
            · have HM2 : Hid (m = (tiredL tries (l.take (k2 + 1))).length) := by show _ = _; rw [tired_no ho ht]; exact HM.out
              have e3 := hbk.cell 3 rfl
              clear ho hrd hcs1 hbo hbk
              go_wp2
              go_roundw
              case rel => exact ⟨k2 + 1, m, by omega, by omega, by go_num, rfl, HM2, HBO⟩
              case measure => simp [intOf]; omega
          · obtain rfl : k2 = n1 := by omega
            have hmq : m = q := by rw [HM.out, HQ.out, List.take_of_length_le (by rw [← HN1.out]; omega)]
            subst hmq
            have HB5 : Hid (Below wq.heap.size wq wr) := bmore HB3.out HB4.out HB3.out.size
            have HC5 := Lib.hid (HC3.out.below HB4.out)
            have HT5 := Lib.hid (HT3.out.below HB4.out)
            have h3s : w3.heap.size ≤ wr.heap.size := HB4.out.size
            obtain ⟨w5, hw5⟩ : ∃ w5 : World, w5 = wr := ⟨_, rfl⟩
            rw [← hw5] at HC5 HB5 HT5 h3s ⊢
            clear hw5 HB4
            have HCV5 : Hid (∀ g, cv.ownBlock = some g → wq.heap.size ≤ g ∧ (g < w2.heap.size ∨ w5.heap.size ≤ g)) := fun g hg => ⟨HCV.out g hg, .inl (HCB.out g hg)⟩
            have HL0 : Hid (l.length + 0 = l.length) := rfl
            have HM0 : Hid (∀ o ∈ l, o.block ∉ (tiredL tries l).take 0 → o ∈ l) := fun o ho _ => ho
            go_wp2_with fail
            go_loopw [16, 91] (fun _ i wr => ∃ (m2 : Nat) (lm : List Hole) (cv2 : Value), m2 ≤ m ∧ i = .int .i64 m2 ∧ Hid (GpAt wr cb cv2 lm f lg) ∧ Hid (Rising lm) ∧ Hid (lm.length + m2 = l.length) ∧ Hid (∀ o ∈ l, o.block ∉ (tiredL tries l).take m2 → o ∈ lm) ∧ Hid (∀ g, cv2.ownBlock = some g → wq.heap.size ≤ g ∧ (g < w2.heap.size ∨ w5.heap.size ≤ g)) ∧ Hid (Below wq.heap.size wq wr) ∧ Hid (w5.heap.size ≤ wr.heap.size) ∧ Hid (Reads wr 1 (.slice A3 m c3) m ((tiredL tries l).map (Value.int .i64)))) (fun _ i _ => m - (intOf i).toNat)
            case atStart => exact ⟨0, l, cv, by omega, rfl, HC5, HRI, HL0, HM0, HCV5, HB5, Nat.le_refl _, HT5⟩
            case round =>
              obtain ⟨m2, lm, cv2, hm2, rfl, HCG, HLR, HLL, HLM, HCO, HBW, HSZ, HTR⟩ := hrel
              by_cases hlt3 : m2 < m
              · obtain ⟨bt, hbt⟩ : ∃ bt, (tiredL tries l)[m2]? = some bt := ⟨_, List.getElem?_eq_getElem (by rw [← HQ.out]; exact hlt3)⟩
                have hgm : ((tiredL tries l).map (Value.int .i64))[m2]? = some (.int .i64 bt) := by rw [List.getElem?_map, hbt]; rfl
                obtain ⟨g4, p4, c4, he4, b0⟩ := HTR.out.at m2 _ hgm
                cases he4
                have i1 : (0 : Int) ≤ (m2 : Int) := by omega
                have i2 : (m2 : Int) < (m : Int) := by omega
                obtain ⟨o, hol, hob⟩ := tired_mem (List.mem_of_getElem? hbt)
                have hnew := tired_new HRI.out hbt
                have holm := HLM.out o hol (by rw [hob]; exact hnew)
                have hhas : has lm bt = true := by
                  cases e : has lm bt with
                  | true => rfl
                  | false => exact absurd hob (has_false.1 e o holm)
                have hdr := drop_any cb cv2 lm f lg bt wr HCG.out HLR.out (by have := HLL.out; have := HN1.out; omega)
                rw [hhas] at hdr
                have HDR := Lib.hid hdr
                have HLR2 := Lib.hid (drp_rising HLR.out bt)
                have HLL2 : Hid ((drp lm bt).length + (m2 + 1) = l.length) := by
                  have h1 := drp_less HLR.out hhas
                  have h2 := HLL.out
                  show (drp lm bt).length + (m2 + 1) = l.length
                  omega
                have HLM2 : Hid (∀ o ∈ l, o.block ∉ (tiredL tries l).take (m2 + 1) → o ∈ drp lm bt) := fun o ho hn => by
                  rw [List.take_add_one, hbt, List.mem_append] at hn
                  exact mem_drp.2 ⟨HLM.out o ho (fun h => hn (.inl h)), fun e => hn (.inr (by rw [e]; simp))⟩
                generalize drp lm bt = lm2 at *
                clear hbt hgm hol hob hnew holm hhas hdr
                go_wp2_with fail
                refine HDR.out.mono ?_
                rintro e w6 ⟨rfl, ⟨cv3, hg6, ho6, hk6⟩⟩
                have HO6 : Hid (∀ g, cv3.ownBlock = some g → wq.heap.size ≤ g ∧ (g < w2.heap.size ∨ w5.heap.size ≤ g)) := fun g hg => by
                  rcases ho6 g hg with h | h
                  · exact HCO.out g h
                  · have h1 := HSZ.out
                    have h2 := HB5.out.size
                    exact ⟨by omega, .inr (by omega)⟩
                have HB6 : Hid (Below wq.heap.size wq w6) := bkeep HBW.out hk6 (Nat.le_refl _) (fun k hk => hk.elim (fun e => by omega) (fun e => (HCO.out k e).1))
                have HT6 : Hid (Reads w6 1 (.slice (some ⟨g4, p4, none⟩) m _) m ((tiredL tries l).map (Value.int .i64))) := HTR.out.keep hk6 (fun g hg _ e => by
                  obtain ⟨h1, h2⟩ := HO3.out g hg
                  rcases e with e | e
                  · omega
                  · have := (HCO.out g e).2; omega)
                have HS6 : Hid (w5.heap.size ≤ w6.heap.size) := Nat.le_trans HSZ.out hk6.size
                have HG6 := Lib.hid hg6
                clear hg6 ho6 hk6 b0
                go_wp2
                go_roundw
                case rel => exact ⟨m2 + 1, lm2, cv3, by omega, by go_num, HG6, HLR2, HLL2, HLM2, HO6, HB6, HS6, HT6⟩
                case measure => simp [intOf]; omega
              · obtain rfl : m2 = m := by omega
                have hs7 := HS.out.below HBW.out
                have hrd7 := hs7.rd
                rw [← HN1.out] at hrd7
                have HSM2 := Lib.hid (HSM.out wr hs7.gp hrd7)
                obtain ⟨r, hr⟩ : ∃ r, r = lm.length := ⟨_, rfl⟩
                have hrn : r + m2 = k2 := by rw [hr, HN1.out]; exact HLL.out
                have hcl := fun w h => len_any cb cv2 lm f lg w h
                rw [← hr] at hcl
                have HCL := Lib.hid hcl
                have t5 : ((r : Int) == (k2 : Int) - (m2 : Int)) = true := by rw [beq_iff_eq]; omega
                have t6 : ((m2 : Int) == (m2 : Int)) = true := by simp
                have HB8 := Lib.hid (bmore HBB.out HBW.out HBB.out.size)
                clear hs7 hrd7 hr hcl hrn
                go_wp2_with fail
                refine HSM2.out.mono ?_
                rintro e w8 ⟨rfl, hb8⟩
                have HC8 := Lib.hid (HCG.out.below hb8)
                have HB9 := Lib.hid (bmore HB8.out hb8 HB8.out.size)
                clear hb8
                go_wp2_with fail
                refine (HCL.out w8 HC8.out).mono ?_
                rintro e w9 ⟨rfl, rfl⟩
                go_wp2_with fail
                refine (awake_any _).mono ?_
                rintro e w10 ⟨rfl, hb10⟩
                have hq9 := bmore HB9.out hb10 HB9.out.size
                go_wp2
                go_ret
                exact ⟨rfl, hq9⟩
  · have HRN := Lib.hid (right_no f lg (.slice A n c) (w.alloc (.cells #[.int .i64 f, .int .i64 lg, .slice A n c] 40)) hz)
    have HBA := Lib.hid hba
    clear h hl hbz hba hz
    go_enter Try.func5, Try.ntmps5
    go_wp2_with fail
    refine HRN.out.mono ?_
    rintro e wa ⟨rfl, hba⟩
    have HBBa := Lib.hid (bmore HBA.out hba HBA.out.size)
    clear hba x0 x1 x2
    go_wp2_with fail
    refine (awake_any _).mono ?_
    rintro e w2 ⟨rfl, hb2⟩
    have hq := bmore HBBa.out hb2 HBBa.out.size
    go_wp2
    go_ret
    exact ⟨rfl, hq⟩
theorem gapsTired_any (f lg : Int) (v : Value) (ops : List OpD) (tries : Int) (w : World) (h : OpsIn w v ops) :
    Calls Try.prog 5 #[.agg #[.int .i64 f, .int .i64 lg, v], .int .i64 tries] w fun e w' => e = .returned (.bool true) ∧ Below w.heap.size w w' := by
  obtain ⟨A, c, rfl, -⟩ := h.rd.val
  exact gapsTired_at f lg A ops.length c ops tries w h rfl h.le
end Go.Proofs.Ytkgngmmlfoiajaa
