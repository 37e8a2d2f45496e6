/- marks: the law MarksPlays. -/
import Derived.Test.YtmiholjmagobhaaMarksPlaysP
import Derived.Test.YtmiholjmagobhaaFam
import Derived.Deep.CutRange
import Derived.Deep.CutBlock
namespace Go.Proofs.Ytmiholjmagobhaa
open Go.RowKit
set_option linter.unusedVariables false
set_option linter.unusedSimpArgs false

/-- the chooser, the reference's state in its box, since W0 -/
structure MpS (W0 w : World) (b p5 : Nat) (c : Cho) (k : Nat) : Prop where
  st : StI c k
  ch : ChoAt w (fun q => W0.heap.size ≤ q ∧ q ≠ p5) b c
  bx : Blk w p5 (stC c) 42
  bel : Below W0.heap.size W0 w
  p5 : W0.heap.size ≤ p5
theorem MpS.below {W0 w w' : World} {b p5 : Nat} {c : Cho} {k : Nat} (h : MpS W0 w b p5 c k) (hb : Below w.heap.size w w') : MpS W0 w' b p5 c k :=
  ⟨h.st, h.ch.keep (Keep.none hb) (fun _ _ => id), h.bx.below hb, bmore h.bel hb h.bel.size, h.p5⟩
set_option maxRecDepth 100000 in
set_option maxHeartbeats 9000000 in
theorem plays_yes (first longest fresh : Int) (A : Option Addr) (k0 : Nat) (ops : List OpD) (w : World) (h : CaseOk w (.slice A ops.length k0) ops) (hok : NewOk first longest fresh) (hli : (lightN ops : Int) ≤ 200) :
    Calls Try.prog 5 #[.agg #[.int .i64 first, .int .i64 longest, .int .i64 fresh, .slice A ops.length k0]] w fun e w' => e = .returned (.bool true) ∧ Below w.heap.size w w' := by
  have hz := (Below.refl w.heap.size w).alloc (Nat.le_refl _) (.cells #[.int .i64 first, .int .i64 longest, .int .i64 fresh, .slice A ops.length k0] 39)
  have HZS := Lib.hid hz
  have HBZ := Lib.hid (Blk.new w #[.int .i64 first, .int .i64 longest, .int .i64 fresh, .slice A ops.length k0] 39)
  have HCZ := Lib.hid (h.below hz)
  have HRT := Lib.hid (fun w => right_yes first longest fresh A ops.length k0 w hok)
  have HN := Lib.hid (fun w => new_yes first longest fresh w hok)
  have HRN := Lib.hid (fun w => refnew_any first longest fresh w)
  have HC : Hid (StI (Cho.fresh0 first longest fresh) 0) := ⟨fresh0_ok hok, rfl, Nat.le_refl _⟩
  have HC0 : Hid ((Cho.fresh0 first longest fresh).steps.length = 0) := rfl
  have hll : ops.length ≤ 200 := by have := len_lightN ops; omega
  have HLI : Hid (∀ w, CaseOk w (.slice A ops.length k0) ops → Calls Try.prog 15 #[.agg #[.int .i64 first, .int .i64 longest, .int .i64 fresh, .slice A ops.length k0]] w fun e w' => e = .returned (.bool true) ∧ Below w.heap.size w w') := fun w hw => by
    have := light_any first longest fresh _ ops w hw
    rw [decide_eq_true hli] at this
    exact this
  obtain ⟨c0, hc0⟩ : ∃ c0, c0 = Cho.fresh0 first longest fresh := ⟨_, rfl⟩
  rw [← hc0] at HN HRN HC HC0
  clear hli hok h hz hc0
  go_enter Try.func5, Try.ntmps5
  go_wp2_with fail
  generalize w.alloc (.cells #[.int .i64 first, .int .i64 longest, .int .i64 fresh, .slice A ops.length k0] 39) = wz at *
  refine (HRT.out wz).mono ?_
  rintro e w1 ⟨rfl, hb1⟩
  have HB1 := Lib.hid (HBZ.out.below hb1)
  have HC1 := Lib.hid (HCZ.out.below hb1)
  have HL1 := Lib.hid (bmore HZS.out hb1 HZS.out.size)
  clear hb1
  obtain ⟨z0, z1, z2, z3⟩ := blk4 HB1.out
  go_wp2_with fail
  refine (HLI.out w1 HC1.out).mono ?_
  rintro e w2 ⟨rfl, hb2⟩
  have HB2 := Lib.hid (HB1.out.below hb2)
  have HC2 := Lib.hid (HC1.out.below hb2)
  have HL2 := Lib.hid (bmore HL1.out hb2 HL1.out.size)
  clear hb2 z0 z1 z2 z3
  obtain ⟨z0, z1, z2, z3⟩ := blk4 HB2.out
  go_wp2_with fail
  refine (HN.out w2).mono ?_
  rintro e w3 ⟨b, rfl, h3, hb3⟩
  have HB3 := Lib.hid (HB2.out.below hb3)
  have HH3 := Lib.hid h3
  have HL3 := Lib.hid hb3
  clear h3 hb3 z0 z1 z2 z3
  obtain ⟨z0, z1, z2, z3⟩ := blk4 HB3.out
  go_wp2_with fail
  refine (HRN.out w3).mono ?_
  rintro e w4 ⟨rfl, hb4⟩
  have HB4 := Lib.hid (HB3.out.below hb4)
  have HH4 := Lib.hid (HH3.out.keep (Keep.none hb4) (fun _ _ => id))
  have HL4 := Lib.hid (bmore HL3.out hb4 HL3.out.size)
  have HSZ := Lib.hid hb4.size
  clear hb4 z0 z1 z2 z3
  obtain ⟨z0, z1, z2, z3⟩ := blk4 HB4.out
  have hzl : w.heap.size < w4.heap.size := HB4.out.lt
  have hzl2 : ¬ w.heap.size = w4.heap.size := by omega
  have hzl3 : ¬ w4.heap.size = w.heap.size := by omega
  have HNEW := Lib.hid (Blk.new w4 zC 42)
  have HNEL : Hid (Below w4.heap.size w4 (w4.alloc (.cells zC 42))) := (Below.refl _ w4).alloc (Nat.le_refl _) _
  go_wp2_with (refine wpList_storeS rfl _ _ rfl _ rfl c0 rfl zC (by exact HNEW.out) zC_size ?_; rintro w5 HB5 HK5; have HB55 := Lib.hid ((HB4.out.below HNEL.out).keep HK5.out hzl2); obtain ⟨z0, z1, z2, z3⟩ := blk4 HB55.out)
  have HMP : Hid (MpS w2 w5 b w4.heap.size c0 0) := by
    have h5 := (HH4.out.keep (Keep.none HNEL.out) (fun _ _ => id)).keep HK5.out (fun q hq e => by have h1 := hq.2; have := HSZ.out; omega)
    exact ⟨HC.out, h5.mono (fun q hq => ⟨hq.1, fun e => by have h1 := hq.2; have := HSZ.out; omega⟩), HB5.out, bkeep (bmore HL4.out HNEL.out HL4.out.size) HK5.out (Nat.le_refl _) (fun q e => by rw [e]; exact HL4.out.size), HL4.out.size⟩
  have HL2' := HL2
  clear z0 z1 z2 z3 HNEW HNEL HK5 HB5 HB55 HB4 HB3 HB2 HB1 HBZ HL4 HL3 HSZ hzl hzl2 hzl3 HH3 HH4 HRT HLI HN HRN HC1 HCZ HZS HL1
  clear HL2'
  generalize w4.heap.size = p5 at *
  go_loopw [6, 7, 47] (fun now ch i wr => ∃ (k : Nat) (t : Int) (c : Cho), k ≤ ops.length ∧ i = .int .i64 k ∧ now = .int .i64 t ∧ ch = .int .i64 (c.steps.length : Nat) ∧ 0 ≤ t ∧ t ≤ k * 1048576 ∧ Hid (MpS w2 wr b p5 c k)) (fun _ _ i _ => ops.length - (intOf i).toNat)
  case atStart => exact ⟨0, 0, c0, by omega, rfl, rfl, by rw [HC0.out]; rfl, by omega, by omega, HMP⟩
  case round =>
    obtain ⟨k, t, c, hk, rfl, rfl, rfl, t0, t1, HS⟩ := hrel
    have hsl := HS.out.st.len
    by_cases hlt : k < ops.length
    · obtain ⟨o, g, p, c', ho, hook, he, d0, d1, d2, d3, d4⟩ := (HC2.out.below HS.out.bel).at hlt
      cases he
      obtain ⟨A', k', hv, -⟩ := hook.rates.val
      have hrr := hook.rates
      have HRW := Lib.hid ((HC2.out.each o (List.mem_of_getElem? ho)).rates.lt)
      have hol := hook.len
      rw [hv] at d3 hrr HRW
      obtain ⟨kd, ly, lt, rv, rates, own⟩ := o
      simp only at hv hrr hol HRW d0 d1 d2 d3 d4
      obtain ⟨rn, hrn⟩ : ∃ rn, rn = rates.length := ⟨_, rfl⟩
      have HRN := Lib.hid hrn
      rw [← hrn] at hrr hol HRW d3
      have hbo : Below wr.heap.size wr (wr.alloc (.cells #[.int .i64 kd, .int .i64 ly, .int .i64 lt, .slice A' rn k', .int .u64 own] 45)) := (Below.refl _ wr).alloc (Nat.le_refl _) _
      have HO := Lib.hid (Blk.new wr #[.int .i64 kd, .int .i64 ly, .int .i64 lt, .slice A' rn k', .int .u64 own] 45)
      have HSO := Lib.hid (HS.out.below hbo)
      have HRR := Lib.hid (hrr.below hbo)
      have HLW := Lib.hid (HS.out.bel.size)
      have HCH0 : Hid (ChoAt (wr.alloc (.cells #[.int .i64 kd, .int .i64 ly, .int .i64 lt, .slice A' rn k', .int .u64 own] 45)) (fun q => (w2.heap.size ≤ q ∧ q ≠ p5) ∧ q < wr.heap.size) b c) := HS.out.ch.lt.keep (Keep.none hbo) (fun _ _ => id)
      have HP9 : Hid (¬ wr.heap.size = p5) := by show ¬ _; have := HS.out.bx.lt; omega
      clear ho hook hv hrr hbo hrn
      go_wp2_with fail
      generalize wr.alloc (.cells #[.int .i64 kd, .int .i64 ly, .int .i64 lt, .slice A' rn k', .int .u64 own] 45) = wo at *
      obtain ⟨T, hT⟩ : ∃ T, T = t + min (max lt 0) 1048576 := ⟨_, rfl⟩
      have hT0 : 0 ≤ T := by omega
      have hT1 : T ≤ (k + 1 : Nat) * 1048576 := by omega
      have hT2 : T ≤ 1000000000000 := by omega
      have hlat := later_any t lt wo ⟨t0, by omega⟩
      rw [← hT] at hlat
      have HLT := Lib.hid hlat
      clear hT hlat d0 d1 d2 d3 d4
      obtain ⟨e0, e1, e2, e3, e4⟩ := blk5 HO.out
      refine HLT.out.mono ?_
      rintro e wo ⟨rfl, rfl⟩
      have a0 := HSO.out.bx.cell 0 (v := .int .i64 c.level) rfl
      obtain ⟨L, hL⟩ : ∃ L, L = c.level := ⟨_, rfl⟩
      have hLb : -1 ≤ L ∧ L ≤ 7 := by rw [hL]; exact ⟨HS.out.st.ok.lo, HS.out.st.ok.hi⟩
      rw [← hL] at a0
      have HLL := Lib.hid hL
      clear hL
      have HCH := Lib.hid HCH0.out
      have HCH := Lib.hid HCH0.out
      have HCH := Lib.hid HCH0.out
      have HCH := Lib.hid HCH0.out
      have HCH := Lib.hid HCH0.out
      have HCH := Lib.hid HCH0.out
      have HCH := Lib.hid HCH0.out
      have HCH := Lib.hid HCH0.out
      have HCH := Lib.hid HCH0.out
      have HCH := Lib.hid HCH0.out
      have HCH := Lib.hid HCH0.out
      have HCH := Lib.hid HCH0.out
      have HCH := Lib.hid HCH0.out
      have HCH := Lib.hid HCH0.out
      have HCH := Lib.hid HCH0.out
      go_upto_block 2 with fail
      go_cut [11, 47] from 48 to 137 (fun s11 s47 wx => s47 = .int .i64 k ∧ ∃ c2, Hid (MpS w2 wx b p5 c2 (k + 1)) ∧ Hid (Blk wx wr.heap.size #[.int .i64 kd, .int .i64 ly, .int .i64 lt, .slice A' rn k', .int .u64 own] 45) ∧ Hid ((c2.level = c.level ∧ c2.steps.length = c.steps.length) ∨ (c2.level ≠ c.level ∧ c2.steps.length = c.steps.length + 1)))
      case first =>
        by_cases kd1 : kd = 1
        · subst kd1
          have hSW : Blk wo.drew p5 (stC c) 42 ∧ Blk wo.drew wr.heap.size #[.int .i64 1, .int .i64 ly, .int .i64 lt, .slice A' rn k', .int .u64 own] 45 := ⟨HSO.out.bx, HO.out⟩
          go_wp2_with fail
          clear e0 e1 e2 e3 e4 a0
          have HRE := Lib.hid (refs_any A' rn k' rates wo.drew (HRR.out.drewN 1) HRN.out.symm hol)
          have HMK := Lib.hid (fun A3 k3 w h => refmark_any c ly own T A3 rn k3 rates w HS.out.st.ok h HRN.out.symm)
          refine wp_region_heldT (S := fun w' => Blk w' p5 (stC c) 42 ∧ Blk w' wr.heap.size #[.int .i64 1, .int .i64 ly, .int .i64 lt, .slice A' rn k', .int .u64 own] 45) 13 (by kernel_rfl) hSW (fun hHeld => ?_)
          refine heldT_take (i := 0) (v := ?_) rfl (by kernel_rfl) (by kernel_rfl) (by kernel_rfl) (by kernel_rfl) (fun _ _ _ h => h) (Or.inl ⟨by rfl, ?_⟩) hHeld ?_
          rotate_left 1
          · intro w hSw; (refine exec_loadS (Operand.tmp 5) ?_ p5 ?_ c hSw.1 <;> rfl)
          (try simp only [Act.put, List.setIfInBounds_toArray, List.set_cons_zero, List.set_cons_succ])
          refine heldT_take (i := 1) (v := ?_) rfl (by kernel_rfl) (by kernel_rfl) (by kernel_rfl) (by kernel_rfl) (fun _ _ _ h => h) (Or.inl ⟨by rfl, ?_⟩) hHeld ?_
          rotate_left 1
          · intro w hSw; obtain ⟨e0, e1, e2, e3, e4⟩ := blk5 hSw.2; clear hSw; go_simp <;> with_reducible rfl
          (try simp only [Act.put, List.setIfInBounds_toArray, List.set_cons_zero, List.set_cons_succ])
          refine heldT_take (i := 2) (v := ?_) rfl (by kernel_rfl) (by kernel_rfl) (by kernel_rfl) (by kernel_rfl) (fun _ _ _ h => h) (Or.inl ⟨by rfl, ?_⟩) hHeld ?_
          rotate_left 1
          · intro w hSw; obtain ⟨e0, e1, e2, e3, e4⟩ := blk5 hSw.2; clear hSw; go_simp <;> with_reducible rfl
          (try simp only [Act.put, List.setIfInBounds_toArray, List.set_cons_zero, List.set_cons_succ])
          refine heldT_take (i := 3) (v := ?_) rfl (by kernel_rfl) (by kernel_rfl) (by kernel_rfl) (by kernel_rfl) (fun _ _ _ h => h) (Or.inl ⟨by rfl, ?_⟩) hHeld ?_
          rotate_left 1
          · intro w hSw; obtain ⟨e0, e1, e2, e3, e4⟩ := blk5 hSw.2; clear hSw; go_simp <;> with_reducible rfl
          (try simp only [Act.put, List.setIfInBounds_toArray, List.set_cons_zero, List.set_cons_succ])
          refine heldT_take (i := 4) (v := ?_) rfl (by kernel_rfl) (by kernel_rfl) (by kernel_rfl) (by kernel_rfl) (fun _ _ _ h => h) (Or.inl ⟨by rfl, ?_⟩) hHeld ?_
          rotate_left 1
          · intro w hSw; obtain ⟨e0, e1, e2, e3, e4⟩ := blk5 hSw.2; clear hSw; go_simp <;> with_reducible rfl
          (try simp only [Act.put, List.setIfInBounds_toArray, List.set_cons_zero, List.set_cons_succ])
          refine heldT_take (i := 6) (v := ?_) rfl (by kernel_rfl) (by kernel_rfl) (by kernel_rfl) (by kernel_rfl) (fun _ _ _ h => h) (Or.inl ⟨by rfl, ?_⟩) hHeld ?_
          rotate_left 1
          · intro w hSw; obtain ⟨e0, e1, e2, e3, e4⟩ := blk5 hSw.2; clear hSw; go_simp <;> with_reducible rfl
          (try simp only [Act.put, List.setIfInBounds_toArray, List.set_cons_zero, List.set_cons_succ])
          refine heldT_take (i := 7) (v := ?_) rfl (by kernel_rfl) (by kernel_rfl) (by kernel_rfl) (by kernel_rfl) (fun _ _ _ h => h) (Or.inl ⟨by rfl, ?_⟩) hHeld ?_
          rotate_left 1
          · intro w hSw; obtain ⟨e0, e1, e2, e3, e4⟩ := blk5 hSw.2; clear hSw; go_simp <;> with_reducible rfl
          (try simp only [Act.put, List.setIfInBounds_toArray, List.set_cons_zero, List.set_cons_succ])
          refine heldT_take (i := 8) (v := ?_) rfl (by kernel_rfl) (by kernel_rfl) (by kernel_rfl) (by kernel_rfl) (fun _ _ _ h => h) (Or.inl ⟨by rfl, ?_⟩) hHeld ?_
          rotate_left 1
          · intro w hSw; obtain ⟨e0, e1, e2, e3, e4⟩ := blk5 hSw.2; clear hSw; go_simp <;> with_reducible rfl
          (try simp only [Act.put, List.setIfInBounds_toArray, List.set_cons_zero, List.set_cons_succ])
          refine heldT_one (j := 5) (by kernel_rfl) (by kernel_rfl) rfl (fun K hK => ?_)
          go_simp
          go_at_call 19
          refine HRE.out.mono ?_
          rintro e w3 ⟨A3, k3, rfl, ho3, hb3⟩
          have HO3 := Lib.hid ((HO.out.drewN 1).below hb3)
          have HS3 := Lib.hid ((HSO.out.below (below_drewN (Below.refl _ wo) 1)).below hb3)
          have HR3 := Lib.hid (Reads.of_owns ho3)
          have HRB3 := Lib.hid ((HRR.out.drewN 1).below hb3)
          have HB33 := Lib.hid hb3
          clear ho3 hb3
          go_wp2_with fail
          refine hK.out _ _ ⟨HS3.out.bx, HO3.out⟩ (fun hHeld => ?_)
          clear hK K
          (try simp only [Act.put, List.setIfInBounds_toArray, List.set_cons_zero, List.set_cons_succ])
          refine heldT_one (j := 9) (by kernel_rfl) (by kernel_rfl) rfl (fun K hK => ?_)
          go_simp
          go_at_call 18
          refine (HMK.out A3 k3 w3 HR3.out).mono ?_
          rintro e w4 ⟨rfl, hb4⟩
          have HO4 := Lib.hid (HO3.out.below hb4)
          have HS4 := Lib.hid (HS3.out.below hb4)
          have HRB4 := Lib.hid (HRB3.out.below hb4)
          have HB34 := Lib.hid (bmore HB33.out hb4 HB33.out.size)
          clear hb4
          go_wp2_with fail
          refine hK.out _ _ ⟨HS4.out.bx, HO4.out⟩ (fun hHeld => ?_)
          clear hK K
          (try simp only [Act.put, List.setIfInBounds_toArray, List.set_cons_zero, List.set_cons_succ])
          refine heldT_take (i := 10) (v := ?_) rfl (by kernel_rfl) (by kernel_rfl) (by kernel_rfl) (by kernel_rfl) (fun _ _ _ h => h) (Or.inl ⟨by rfl, ?_⟩) hHeld ?_
          rotate_left 1
          · intro w hSw; obtain ⟨e0, e1, e2, e3, e4⟩ := blk5 hSw.2; clear hSw; go_simp <;> with_reducible rfl
          (try simp only [Act.put, List.setIfInBounds_toArray, List.set_cons_zero, List.set_cons_succ])
          refine heldT_take (i := 11) (v := ?_) rfl (by kernel_rfl) (by kernel_rfl) (by kernel_rfl) (by kernel_rfl) (fun _ _ _ h => h) (Or.inl ⟨by rfl, ?_⟩) hHeld ?_
          rotate_left 1
          · intro w hSw; obtain ⟨e0, e1, e2, e3, e4⟩ := blk5 hSw.2; clear hSw; go_simp <;> with_reducible rfl
          (try simp only [Act.put, List.setIfInBounds_toArray, List.set_cons_zero, List.set_cons_succ])
          refine heldT_both (i := 12) (v := ?_) rfl (by kernel_rfl) (by kernel_rfl) (by kernel_rfl) (by kernel_rfl) (fun _ _ _ h => h) (Or.inl ⟨by rfl, ?_⟩) hHeld ?_
          rotate_left 1
          · intro w; go_simp <;> with_reducible rfl
          (try simp only [Act.put, List.setIfInBounds_toArray, List.set_cons_zero, List.set_cons_succ])
          refine heldT_tail (by kernel_rfl) rfl rfl (by kernel_rfl) ?_
          (try simp only [List.drop_succ_cons, List.drop_zero])
          go_wp2_with (refine wpList_storeS rfl _ _ rfl _ rfl (c.mark ly rates own T).1 rfl _ HS4.out.bx (stC_size _) ?_; rintro w5 HB5 HK5)
          refine NoPanic.normal ?_
          have HO5 := Lib.hid (HO4.out.keep HK5.out HP9.out)
          have HC5 := Lib.hid (((HCH.out.keep (Keep.none (below_drewN (Below.refl _ wo) 1)) (fun _ _ => id)).keep (Keep.none (HB34.out)) (fun _ _ => id)).keep HK5.out (fun q h e => h.1.2 e))
          have HR5 := Lib.hid (HRB4.out.keep HK5.out (fun g' hg' h0 e => by have h1 := HRW.out g' hg' h0; have h2 := HS.out.p5; omega))
          obtain ⟨e0, e1, e2, e3, e4⟩ := blk5 HO5.out
          have HMC := Lib.hid (mark_cases HS.out.st.ok ly rates own T)
          have HMA := Lib.hid (mark_any b _ c ly own T _ rates w5 HC5.out (by omega) HS.out.st.ok (by rw [← HRN.out]; exact HR5.out) (by rw [← HRN.out]; omega))
          have HST2 := Lib.hid (HS.out.st.mark ly rates own T)
          obtain ⟨cm, hcm⟩ : ∃ cm, cm = c.mark ly rates own T := ⟨_, rfl⟩
          rw [← hcm] at HMC HMA HST2 HB5 ⊢
          obtain ⟨c2, d⟩ := cm
          have t1 : (d != d) = false := by simp
          clear hcm hHeld
          go_wp2_with fail
          refine HMA.out.mono ?_
          rintro e w6 ⟨rfl, hch6, hk6⟩
          have hp5 : ¬ ((w2.heap.size ≤ p5 ∧ p5 ≠ p5) ∧ p5 < wr.heap.size) := fun h => h.1.2 rfl
          have HO6 := Lib.hid (HO5.out.keep hk6 (fun h => Nat.lt_irrefl _ h.2))
          have HB6 := Lib.hid (HB5.out.keep hk6 hp5)
          have hl5 : p5 < w5.heap.size := HB5.out.lt
          have hw5 : w2.heap.size ≤ w5.heap.size := Nat.le_trans HS4.out.bel.size HK5.out.size
          have HC6 := Lib.hid (hch6.mono (F' := fun q => w2.heap.size ≤ q ∧ q ≠ p5) (fun q h => h.elim (fun h => h.1) (fun h => ⟨by omega, by omega⟩)))
          have HL6 := Lib.hid (bkeep (bkeep HS4.out.bel HK5.out (Nat.le_refl _) (fun q h => by rw [h]; exact HS.out.p5)) hk6 (Nat.le_refl _) (fun q h => h.1.1))
          clear hch6 hk6 hp5 e0 e1 e2 e3 e4
          go_wp2_with fail
          go_meet
          refine ⟨rfl, c2, ⟨HST2.out, HC6.out, HB6.out, HL6.out, HS.out.p5⟩, HO6, ?_⟩
          rcases HMC.out with ⟨-, h1, h2, -, -, h3, h4, -⟩ | ⟨-, h1, h2, -, -, h3, h4, -⟩ | ⟨-, h1, -⟩
          · exact .inr ⟨by rw [h3]; omega, by rw [h4]; simp⟩
          · exact .inr ⟨by rw [h3]; omega, by rw [h4]; simp⟩
          · exact .inl ⟨by rw [h1], by rw [h1]⟩
        · have b1 : (kd == 1) = false := by simpa using kd1
          have HST := Lib.hid HS.out.st
          by_cases kd2 : kd = 2
          · subst kd2
            by_cases hLc : c.level = -1
            · obtain rfl : L = -1 := HLL.out.trans hLc
              have hen := enter_any b _ c wo.drew (HCH.out.keep (Keep.none (below_drewN (Below.refl _ wo) 1)) (fun _ _ => id)) (by omega)
              rw [if_pos hLc, if_pos hLc] at hen
              have HEN := Lib.hid hen
              clear hen
              go_wp2_with fail
              have d0 : wo.drew.cell? ⟨p5, 0, none⟩ = some (.int .i64 (-1)) := a0
              clear a0 e0 e1 e2 e3 e4
              go_region_held3 (fun w' => w'.cell? ⟨p5, 0, none⟩ = some (.int .i64 (-1))) (first | with_reducible exact d1 | with_reducible exact d0 | with_reducible assumption) (first | (go_at_call 10; refine HEN.out.mono ?_; rintro e w6 ⟨rfl, hch6, hk6⟩; have HB6 := Lib.hid (Blk.keep (HSO.out.bx.drew) hk6 (fun h => h.1.2 rfl)); have HO6 := Lib.hid (Blk.keep HO.out.drew hk6 (fun h => Nat.lt_irrefl _ h.2)); have HC6 := Lib.hid hch6; have HK6 := Lib.hid hk6; have d1 : w6.cell? ⟨p5, 0, none⟩ = some (.int .i64 (-1)) := (by have h := HB6.out.cell 0 (v := .int .i64 c.level) rfl; rw [HLL.out.symm] at h; exact h); clear hch6 hk6))
              have HL6 := Lib.hid (bkeep (below_drewN HSO.out.bel 1) HK6.out (Nat.le_refl _) (fun q h => h.1.1))
              have hsz6 : w2.heap.size ≤ wo.heap.size := HSO.out.bel.size
              have hp5l : p5 < wo.heap.size := HSO.out.bx.lt
              have HC7 := Lib.hid (HC6.out.mono (F' := fun q => w2.heap.size ≤ q ∧ q ≠ p5) (fun q h => h.elim (fun h => h.1) (fun h => (by have h : wo.heap.size ≤ q := h; exact ⟨by omega, by omega⟩))))
              have f0 := HB6.out.frozen 0
              have HB7 : Hid (Blk (w6.setCell ⟨p5, 0, none⟩ (.int .i64 0)) p5 (stC (c.to 0 (-1))) 42) := HB6.out.set' (by rw [st_set_level]; exact st_congr rfl (fun _ _ => rfl) (fun _ _ => rfl) (fun _ _ => rfl) rfl rfl)
              have HO7 : Hid (Blk (w6.setCell ⟨p5, 0, none⟩ (.int .i64 0)) wr.heap.size #[.int .i64 2, .int .i64 ly, .int .i64 lt, .slice A' rn k', .int .u64 own] 45) := HO6.out.setOther HP9.out _
              have HKs : Keep (fun q => q = p5) w6 (w6.setCell ⟨p5, 0, none⟩ (.int .i64 0)) := (Keep.refl (fun q => q = p5) w6).setCell (p := ⟨p5, 0, none⟩) (.inl rfl) _
              have HC8 := Lib.hid (HC7.out.keep HKs (fun q h e => h.2 e))
              have HL8 := Lib.hid (bkeep HL6.out HKs (Nat.le_refl _) (fun q h => by rw [h]; exact HS.out.p5))
              clear HKs
              go_wp2_with fail
              go_meet
              exact ⟨rfl, c.to 0 (-1), ⟨HST.out.to (by omega) (by omega), HC8.out, HB7.out, HL8.out, HS.out.p5⟩, HO7, .inr ⟨(by show _ ≠ c.level; simp only [Cho.to]; omega), by simp [Cho.to]⟩⟩
            · have hLn : ¬ L = -1 := fun h => hLc (HLL.out.symm.trans h)
              have t1 : (L == -1) = false := by simpa using hLn
              have t2 : (L != -1) = true := by rw [bne, t1]; rfl
              have hen := enter_any b _ c wo.drew (HCH.out.keep (Keep.none (below_drewN (Below.refl _ wo) 1)) (fun _ _ => id)) (by omega)
              rw [if_neg hLc, if_neg hLc] at hen
              have HEN := Lib.hid hen
              clear hen
              go_wp2_with fail
              have d0 : wo.drew.cell? ⟨p5, 0, none⟩ = some (.int .i64 L) := a0
              clear a0 e0 e1 e2 e3 e4
              go_region_held3 (fun w' => w'.cell? ⟨p5, 0, none⟩ = some (.int .i64 L)) (first | with_reducible exact d1 | with_reducible exact d0 | with_reducible assumption) (first | (go_at_call 10; refine HEN.out.mono ?_; rintro e w6 ⟨rfl, hch6, hk6⟩; have HB6 := Lib.hid (Blk.keep (HSO.out.bx.drew) hk6 (fun h => h.1.2 rfl)); have HO6 := Lib.hid (Blk.keep HO.out.drew hk6 (fun h => Nat.lt_irrefl _ h.2)); have HC6 := Lib.hid hch6; have HK6 := Lib.hid hk6; have d1 : w6.cell? ⟨p5, 0, none⟩ = some (.int .i64 L) := (by have h := HB6.out.cell 0 (v := .int .i64 c.level) rfl; rw [HLL.out.symm] at h; exact h); clear hch6 hk6))
              have HL6 := Lib.hid (bkeep (below_drewN HSO.out.bel 1) HK6.out (Nat.le_refl _) (fun q h => h.1.1))
              have hsz6 : w2.heap.size ≤ wo.heap.size := HSO.out.bel.size
              have hp5l : p5 < wo.heap.size := HSO.out.bx.lt
              have HC7 := Lib.hid (HC6.out.mono (F' := fun q => w2.heap.size ≤ q ∧ q ≠ p5) (fun q h => h.elim (fun h => h.1) (fun h => (by have h : wo.heap.size ≤ q := h; exact ⟨by omega, by omega⟩))))
              go_wp2_with fail
              go_meet
              exact ⟨rfl, c, ⟨HST.out.stay, HC7.out, HB6.out, HL6.out, HS.out.p5⟩, HO6, .inl ⟨rfl, rfl⟩⟩
          · have b2 : (kd == 2) = false := by simpa using kd2
            by_cases kd3 : kd = 3
            · subst kd3
              by_cases hLc : c.level = -1
              · obtain rfl : L = -1 := HLL.out.trans hLc
                have hen := leave_any b _ c wo.drew (HCH.out.keep (Keep.none (below_drewN (Below.refl _ wo) 1)) (fun _ _ => id)) (by omega)
                rw [if_pos hLc, if_pos hLc] at hen
                have HEN := Lib.hid hen
                clear hen
                go_wp2_with fail
                have d0 : wo.drew.cell? ⟨p5, 0, none⟩ = some (.int .i64 (-1)) := a0
                clear a0 e0 e1 e2 e3 e4
                go_region_held3 (fun w' => w'.cell? ⟨p5, 0, none⟩ = some (.int .i64 (-1))) (first | with_reducible exact d1 | with_reducible exact d0 | with_reducible assumption) (first | (go_at_call 20; refine HEN.out.mono ?_; rintro e w6 ⟨rfl, hch6, hk6⟩; have HB6 := Lib.hid (Blk.keep (HSO.out.bx.drew) hk6 (fun h => h.1.2 rfl)); have HO6 := Lib.hid (Blk.keep HO.out.drew hk6 (fun h => Nat.lt_irrefl _ h.2)); have HC6 := Lib.hid hch6; have HK6 := Lib.hid hk6; have d1 : w6.cell? ⟨p5, 0, none⟩ = some (.int .i64 (-1)) := (by have h := HB6.out.cell 0 (v := .int .i64 c.level) rfl; rw [HLL.out.symm] at h; exact h); clear hch6 hk6))
                have HL6 := Lib.hid (bkeep (below_drewN HSO.out.bel 1) HK6.out (Nat.le_refl _) (fun q h => h.1.1))
                have hsz6 : w2.heap.size ≤ wo.heap.size := HSO.out.bel.size
                have hp5l : p5 < wo.heap.size := HSO.out.bx.lt
                have HC7 := Lib.hid (HC6.out.mono (F' := fun q => w2.heap.size ≤ q ∧ q ≠ p5) (fun q h => h.elim (fun h => h.1) (fun h => (by have h : wo.heap.size ≤ q := h; exact ⟨by omega, by omega⟩))))
                have f0 := HB6.out.frozen 0
                have HB7 : Hid (Blk (w6.setCell ⟨p5, 0, none⟩ (.int .i64 (-1))) p5 (stC (c)) 42) := HB6.out.set' (by rw [st_set_level]; exact st_congr hLc.symm (fun _ _ => rfl) (fun _ _ => rfl) (fun _ _ => rfl) rfl rfl)
                have HO7 : Hid (Blk (w6.setCell ⟨p5, 0, none⟩ (.int .i64 (-1))) wr.heap.size #[.int .i64 3, .int .i64 ly, .int .i64 lt, .slice A' rn k', .int .u64 own] 45) := HO6.out.setOther HP9.out _
                have HKs : Keep (fun q => q = p5) w6 (w6.setCell ⟨p5, 0, none⟩ (.int .i64 (-1))) := (Keep.refl (fun q => q = p5) w6).setCell (p := ⟨p5, 0, none⟩) (.inl rfl) _
                have HC8 := Lib.hid (HC7.out.keep HKs (fun q h e => h.2 e))
                have HL8 := Lib.hid (bkeep HL6.out HKs (Nat.le_refl _) (fun q h => by rw [h]; exact HS.out.p5))
                clear HKs
                go_wp2_with fail
                go_meet
                exact ⟨rfl, c, ⟨HST.out.stay, HC8.out, HB7.out, HL8.out, HS.out.p5⟩, HO7, .inl ⟨rfl, rfl⟩⟩
              · have hLn : ¬ L = -1 := fun h => hLc (HLL.out.symm.trans h)
                have t1 : (L == -1) = false := by simpa using hLn
                have t2 : (L != -1) = true := by rw [bne, t1]; rfl
                have hen := leave_any b _ c wo.drew (HCH.out.keep (Keep.none (below_drewN (Below.refl _ wo) 1)) (fun _ _ => id)) (by omega)
                rw [if_neg hLc, if_neg hLc] at hen
                have HEN := Lib.hid hen
                clear hen
                go_wp2_with fail
                have d0 : wo.drew.cell? ⟨p5, 0, none⟩ = some (.int .i64 L) := a0
                clear a0 e0 e1 e2 e3 e4
                go_region_held3 (fun w' => w'.cell? ⟨p5, 0, none⟩ = some (.int .i64 L)) (first | with_reducible exact d1 | with_reducible exact d0 | with_reducible assumption) (first | (go_at_call 20; refine HEN.out.mono ?_; rintro e w6 ⟨rfl, hch6, hk6⟩; have HB6 := Lib.hid (Blk.keep (HSO.out.bx.drew) hk6 (fun h => h.1.2 rfl)); have HO6 := Lib.hid (Blk.keep HO.out.drew hk6 (fun h => Nat.lt_irrefl _ h.2)); have HC6 := Lib.hid hch6; have HK6 := Lib.hid hk6; have d1 : w6.cell? ⟨p5, 0, none⟩ = some (.int .i64 L) := (by have h := HB6.out.cell 0 (v := .int .i64 c.level) rfl; rw [HLL.out.symm] at h; exact h); clear hch6 hk6))
                have HL6 := Lib.hid (bkeep (below_drewN HSO.out.bel 1) HK6.out (Nat.le_refl _) (fun q h => h.1.1))
                have hsz6 : w2.heap.size ≤ wo.heap.size := HSO.out.bel.size
                have hp5l : p5 < wo.heap.size := HSO.out.bx.lt
                have HC7 := Lib.hid (HC6.out.mono (F' := fun q => w2.heap.size ≤ q ∧ q ≠ p5) (fun q h => h.elim (fun h => h.1) (fun h => (by have h : wo.heap.size ≤ q := h; exact ⟨by omega, by omega⟩))))
                have f0 := HB6.out.frozen 0
                have HB7 : Hid (Blk (w6.setCell ⟨p5, 0, none⟩ (.int .i64 (-1))) p5 (stC (c.to (-1) (-1))) 42) := HB6.out.set' (by rw [st_set_level]; exact st_congr rfl (fun _ _ => rfl) (fun _ _ => rfl) (fun _ _ => rfl) rfl rfl)
                have HO7 : Hid (Blk (w6.setCell ⟨p5, 0, none⟩ (.int .i64 (-1))) wr.heap.size #[.int .i64 3, .int .i64 ly, .int .i64 lt, .slice A' rn k', .int .u64 own] 45) := HO6.out.setOther HP9.out _
                have HKs : Keep (fun q => q = p5) w6 (w6.setCell ⟨p5, 0, none⟩ (.int .i64 (-1))) := (Keep.refl (fun q => q = p5) w6).setCell (p := ⟨p5, 0, none⟩) (.inl rfl) _
                have HC8 := Lib.hid (HC7.out.keep HKs (fun q h e => h.2 e))
                have HL8 := Lib.hid (bkeep HL6.out HKs (Nat.le_refl _) (fun q h => by rw [h]; exact HS.out.p5))
                clear HKs
                go_wp2_with fail
                go_meet
                exact ⟨rfl, c.to (-1) (-1), ⟨HST.out.to (by omega) (by omega), HC8.out, HB7.out, HL8.out, HS.out.p5⟩, HO7, .inr ⟨(by show _ ≠ c.level; simp only [Cho.to]; omega), by simp [Cho.to]⟩⟩
            · have b3 : (kd == 3) = false := by simpa using kd3
              go_wp2_with fail
              go_meet
              exact ⟨rfl, c, ⟨HST.out.stay, HSO.out.ch, HSO.out.bx, HSO.out.bel, HS.out.p5⟩, HO, .inl ⟨rfl, rfl⟩⟩
      case rest =>
        obtain ⟨rfl, c2, HM, HO2, HCS⟩ := hcut
        have a0 := HM.out.bx.cell 0 (v := .int .i64 c2.level) rfl
        obtain ⟨L2, hL2⟩ : ∃ L2, L2 = c2.level := ⟨_, rfl⟩
        have HL2' := Lib.hid hL2
        rw [← hL2] at a0
        obtain ⟨sn, hsn⟩ : ∃ sn, sn = c.steps.length := ⟨_, rfl⟩
        obtain ⟨sm, hsm⟩ : ∃ sm, sm = c2.steps.length := ⟨_, rfl⟩
        have HSM := Lib.hid hsm
        have hcs : (L2 = L ∧ sm = sn) ∨ (L2 ≠ L ∧ sm = sn + 1) := by rw [hL2, hsm, hsn, HLL.out]; exact HCS.out
        rw [← hsn]
        have hsnk : sn ≤ k := by rw [hsn]; exact hsl
        clear hL2 hsn hsm
        go_upto_if 111 with fail
        go_cut [7, 47] from 48 to 137 (fun s7 s47 wx => s47 = .int .i64 k ∧ s7 = .int .i64 (sm : Nat) ∧ wx = wc)
        case first =>
          rcases hcs with ⟨rfl, rfl⟩ | ⟨h1, rfl⟩
          · have t1 : (L2 != L2) = false := by simp
            go_wp2_with fail
            go_meet
            exact ⟨rfl, rfl, rfl⟩
          · have t1 : (L2 != L) = true := by simpa using h1
            go_wp2_with fail
            go_meet
            exact ⟨rfl, by go_num, rfl⟩
        case rest =>
          obtain ⟨rfl, rfl, rfl⟩ := hcut
          obtain ⟨U, hU⟩ : ∃ U, U = (if 0 ≤ ly ∧ ly < 8 then c2.till ly.toNat else 0) := ⟨_, rfl⟩
          have hun := fun w h => until_any b (fun q => w2.heap.size ≤ q ∧ q ≠ p5) c2 ly w h
          have hru := fun w => refuntil_any c2 ly w
          rw [← hU] at hun hru
          have HUN := Lib.hid hun
          have HRU := Lib.hid hru
          have hsl2 := HM.out.st.len
          have HSTP : Hid (∀ w, ChoAt w (fun q => w2.heap.size ≤ q ∧ q ≠ p5) b c2 → Calls Try.prog 22 #[.pointer (some ⟨b, 0, none⟩)] w fun e w' => ∃ A k, e = .returned (.slice A sm k) ∧ Below w.heap.size w w') := fun w h => by
            have h1 := steps_any b _ c2 w h (by omega)
            rw [← HSM.out] at h1
            exact h1.mono (fun e w' ⟨A, k, h1, _, h2⟩ => ⟨A, k, h1, h2⟩)
          have HLV := Lib.hid (fun w h => level_any b (fun q => w2.heap.size ≤ q ∧ q ≠ p5) c2 w h)
          have t3 : (U != U) = false := by simp
          have t4 : ((sm : Int) != (sm : Int)) = false := by simp
          have t5 : (c2.level != c2.level) = false := by simp
          clear hU hun hru hcs a0
          go_wp2_with fail
          refine wp_region_noPanic ?_
          refine wp_region_held_drew (S := fun w' => Blk w' p5 (stC c2) 42 ∧ Blk w' wr.heap.size #[.int .i64 kd, .int .i64 ly, .int .i64 lt, .slice A' rn k', .int .u64 own] 45) (by kernel_rfl) ⟨HM.out.bx, HO2.out⟩ (fun hHeld => ?_)
          refine wpAnyH_take (i := 0) (oi := { dst := some 114, op := Op.move (Operand.tmp 3), type := 23, pos := "law.go:99", after := #[], guard := none }) (v := ?_) rfl (by kernel_rfl) (by kernel_rfl) (by kernel_rfl) (fun _ _ _ h => h) (Or.inl ⟨by rfl, ?_⟩) hHeld ?_
          rotate_left 1
          · intro w hSw; obtain ⟨e0, e1, e2, e3, e4⟩ := blk5 hSw.2; have s0 := hSw.1.cell 0 (v := .int .i64 c2.level) rfl; clear hSw; go_simp <;> with_reducible rfl
          (try simp only [Act.put, List.setIfInBounds_toArray, List.set_cons_zero, List.set_cons_succ])
          refine wpAnyH_take (i := 2) (oi := { dst := some 116, op := Op.fieldAddr 42 (Operand.tmp 5) 0, type := 0, pos := "law.go:99", after := #[], guard := none }) (v := ?_) rfl (by kernel_rfl) (by kernel_rfl) (by kernel_rfl) (fun _ _ _ h => h) (Or.inl ⟨by rfl, ?_⟩) hHeld ?_
          rotate_left 1
          · intro w hSw; obtain ⟨e0, e1, e2, e3, e4⟩ := blk5 hSw.2; have s0 := hSw.1.cell 0 (v := .int .i64 c2.level) rfl; clear hSw; go_simp <;> with_reducible rfl
          (try simp only [Act.put, List.setIfInBounds_toArray, List.set_cons_zero, List.set_cons_succ])
          refine wpAnyH_take (i := 3) (oi := { dst := some 117, op := Op.load 3 (Operand.tmp 116), type := 3, pos := "law.go:99", after := #[{ on := 2, ground := Ground.data }], guard := none }) (v := ?_) rfl (by kernel_rfl) (by kernel_rfl) (by kernel_rfl) (fun _ _ _ h => h) (Or.inl ⟨by rfl, ?_⟩) hHeld ?_
          rotate_left 1
          · intro w hSw; obtain ⟨e0, e1, e2, e3, e4⟩ := blk5 hSw.2; have s0 := hSw.1.cell 0 (v := .int .i64 c2.level) rfl; clear hSw; go_simp <;> with_reducible rfl
          (try simp only [Act.put, List.setIfInBounds_toArray, List.set_cons_zero, List.set_cons_succ])
          refine wpAnyH_ready (rs := [1]) (by kernel_rfl) (by simp) ?_
          refine AllReadyH.cons rfl (fun K hK => ?_) AllReadyH.nil
          go_simp
          go_at_call 21
          refine (HLV.out _ HM.out.ch.drew).mono ?_
          rintro e w6 ⟨rfl, rfl⟩
          go_wp2_with fail
          refine hK.out _ _ ⟨HM.out.bx, HO2.out⟩ (fun hHeld => ?_)
          clear hK K
          (try simp only [Act.put, List.setIfInBounds_toArray, List.set_cons_zero, List.set_cons_succ])
          refine wpAnyH_take (i := 4) (oi := { dst := some 118, op := Op.binOp BinOp.neq 3 (Operand.tmp 115) (Operand.tmp 117) 3, type := 4, pos := "law.go:99", after := #[{ on := 1, ground := Ground.data }, { on := 3, ground := Ground.data }], guard := none }) (v := ?_) rfl (by kernel_rfl) (by kernel_rfl) (by kernel_rfl) (fun _ _ _ h => h) (Or.inl ⟨by rfl, ?_⟩) hHeld ?_
          rotate_left 1
          · intro w hSw; obtain ⟨e0, e1, e2, e3, e4⟩ := blk5 hSw.2; have s0 := hSw.1.cell 0 (v := .int .i64 c2.level) rfl; clear hSw; go_simp <;> with_reducible rfl
          (try simp only [Act.put, List.setIfInBounds_toArray, List.set_cons_zero, List.set_cons_succ])
          refine wpAnyH_take (i := 5) (oi := { dst := some 119, op := Op.move (Operand.tmp 118), type := 4, pos := "law.go:99", after := #[{ on := 4, ground := Ground.data }, { on := 1, ground := Ground.chain }], guard := none }) (v := ?_) rfl (by kernel_rfl) (by kernel_rfl) (by kernel_rfl) (fun _ _ _ h => h) (Or.inl ⟨by rfl, ?_⟩) hHeld ?_
          rotate_left 1
          · intro w hSw; obtain ⟨e0, e1, e2, e3, e4⟩ := blk5 hSw.2; have s0 := hSw.1.cell 0 (v := .int .i64 c2.level) rfl; clear hSw; go_simp <;> with_reducible rfl
          (try simp only [Act.put, List.setIfInBounds_toArray, List.set_cons_zero, List.set_cons_succ])
          refine wpAnyH_take (i := 6) (oi := { dst := some 120, op := Op.move (Operand.tmp 3), type := 23, pos := "law.go:99", after := #[{ on := 5, ground := Ground.guard }], guard := some (5, false) }) (v := ?_) rfl (by kernel_rfl) (by kernel_rfl) (by kernel_rfl) (fun _ _ _ h => h) (Or.inl ⟨by rfl, ?_⟩) hHeld ?_
          rotate_left 1
          · intro w hSw; obtain ⟨e0, e1, e2, e3, e4⟩ := blk5 hSw.2; have s0 := hSw.1.cell 0 (v := .int .i64 c2.level) rfl; clear hSw; go_simp <;> with_reducible rfl
          (try simp only [Act.put, List.setIfInBounds_toArray, List.set_cons_zero, List.set_cons_succ])
          refine wpAnyH_take (i := 9) (oi := { dst := some 123, op := Op.move (Operand.tmp 7), type := 3, pos := "law.go:99", after := #[{ on := 5, ground := Ground.guard }], guard := some (5, false) }) (v := ?_) rfl (by kernel_rfl) (by kernel_rfl) (by kernel_rfl) (fun _ _ _ h => h) (Or.inl ⟨by rfl, ?_⟩) hHeld ?_
          rotate_left 1
          · intro w hSw; obtain ⟨e0, e1, e2, e3, e4⟩ := blk5 hSw.2; have s0 := hSw.1.cell 0 (v := .int .i64 c2.level) rfl; clear hSw; go_simp <;> with_reducible rfl
          (try simp only [Act.put, List.setIfInBounds_toArray, List.set_cons_zero, List.set_cons_succ])
          refine wpAnyH_ready (rs := [7]) (by kernel_rfl) (by simp) ?_
          refine AllReadyH.cons rfl (fun K hK => ?_) AllReadyH.nil
          go_simp
          go_at_call 22
          refine (HSTP.out _ HM.out.ch.drew).mono ?_
          rintro e w7 ⟨A7, k7, rfl, hb7⟩
          have HM7 := Lib.hid (MpS.below (HM.out.below (below_drewN (Below.refl _ wc) 1)) hb7)
          have HO7 := Lib.hid (Blk.below HO2.out.drew hb7)
          clear hb7
          go_wp2_with fail
          refine hK.out _ _ ⟨HM7.out.bx, HO7.out⟩ (fun hHeld => ?_)
          clear hK K
          (try simp only [Act.put, List.setIfInBounds_toArray, List.set_cons_zero, List.set_cons_succ])
          refine wpAnyH_take (i := 8) (oi := { dst := some 122, op := Op.call { callee := Callee.builtin Builtin.len, args := #[Operand.tmp 121], argTypes := #[52] }, type := 3, pos := "law.go:99", after := #[{ on := 7, ground := Ground.data }, { on := 5, ground := Ground.guard }], guard := some (5, false) }) (v := ?_) rfl (by kernel_rfl) (by kernel_rfl) (by kernel_rfl) (fun _ _ _ h => h) (Or.inl ⟨by rfl, ?_⟩) hHeld ?_
          rotate_left 1
          · intro w hSw; obtain ⟨e0, e1, e2, e3, e4⟩ := blk5 hSw.2; have s0 := hSw.1.cell 0 (v := .int .i64 c2.level) rfl; clear hSw; go_simp <;> with_reducible rfl
          (try simp only [Act.put, List.setIfInBounds_toArray, List.set_cons_zero, List.set_cons_succ])
          refine wpAnyH_take (i := 10) (oi := { dst := some 124, op := Op.binOp BinOp.neq 3 (Operand.tmp 122) (Operand.tmp 123) 3, type := 4, pos := "law.go:99", after := #[{ on := 8, ground := Ground.data }, { on := 9, ground := Ground.data }, { on := 5, ground := Ground.guard }], guard := some (5, false) }) (v := ?_) rfl (by kernel_rfl) (by kernel_rfl) (by kernel_rfl) (fun _ _ _ h => h) (Or.inl ⟨by rfl, ?_⟩) hHeld ?_
          rotate_left 1
          · intro w hSw; obtain ⟨e0, e1, e2, e3, e4⟩ := blk5 hSw.2; have s0 := hSw.1.cell 0 (v := .int .i64 c2.level) rfl; clear hSw; go_simp <;> with_reducible rfl
          (try simp only [Act.put, List.setIfInBounds_toArray, List.set_cons_zero, List.set_cons_succ])
          refine wpAnyH_take (i := 11) (oi := { dst := some 125, op := Op.pick (Operand.tmp 119) (Operand.const (Value.bool true)) (Operand.tmp 124), type := 4, pos := "law.go:99", after := #[{ on := 5, ground := Ground.data }, { on := 10, ground := Ground.data }], guard := none }) (v := ?_) rfl (by kernel_rfl) (by kernel_rfl) (by kernel_rfl) (fun _ _ _ h => h) (Or.inl ⟨by rfl, ?_⟩) hHeld ?_
          rotate_left 1
          · intro w hSw; obtain ⟨e0, e1, e2, e3, e4⟩ := blk5 hSw.2; have s0 := hSw.1.cell 0 (v := .int .i64 c2.level) rfl; clear hSw; go_simp <;> with_reducible rfl
          (try simp only [Act.put, List.setIfInBounds_toArray, List.set_cons_zero, List.set_cons_succ])
          refine wpAnyH_take (i := 12) (oi := { dst := some 126, op := Op.move (Operand.tmp 125), type := 4, pos := "law.go:99", after := #[{ on := 11, ground := Ground.data }, { on := 7, ground := Ground.chain }], guard := none }) (v := ?_) rfl (by kernel_rfl) (by kernel_rfl) (by kernel_rfl) (fun _ _ _ h => h) (Or.inl ⟨by rfl, ?_⟩) hHeld ?_
          rotate_left 1
          · intro w hSw; obtain ⟨e0, e1, e2, e3, e4⟩ := blk5 hSw.2; have s0 := hSw.1.cell 0 (v := .int .i64 c2.level) rfl; clear hSw; go_simp <;> with_reducible rfl
          (try simp only [Act.put, List.setIfInBounds_toArray, List.set_cons_zero, List.set_cons_succ])
          refine wpAnyH_take (i := 13) (oi := { dst := some 127, op := Op.move (Operand.tmp 3), type := 23, pos := "law.go:99", after := #[{ on := 12, ground := Ground.guard }], guard := some (12, false) }) (v := ?_) rfl (by kernel_rfl) (by kernel_rfl) (by kernel_rfl) (fun _ _ _ h => h) (Or.inl ⟨by rfl, ?_⟩) hHeld ?_
          rotate_left 1
          · intro w hSw; obtain ⟨e0, e1, e2, e3, e4⟩ := blk5 hSw.2; have s0 := hSw.1.cell 0 (v := .int .i64 c2.level) rfl; clear hSw; go_simp <;> with_reducible rfl
          (try simp only [Act.put, List.setIfInBounds_toArray, List.set_cons_zero, List.set_cons_succ])
          refine wpAnyH_take (i := 14) (oi := { dst := some 128, op := Op.fieldAddr 45 (Operand.tmp 9) 1, type := 0, pos := "law.go:99", after := #[{ on := 12, ground := Ground.guard }], guard := some (12, false) }) (v := ?_) rfl (by kernel_rfl) (by kernel_rfl) (by kernel_rfl) (fun _ _ _ h => h) (Or.inl ⟨by rfl, ?_⟩) hHeld ?_
          rotate_left 1
          · intro w hSw; obtain ⟨e0, e1, e2, e3, e4⟩ := blk5 hSw.2; have s0 := hSw.1.cell 0 (v := .int .i64 c2.level) rfl; clear hSw; go_simp <;> with_reducible rfl
          (try simp only [Act.put, List.setIfInBounds_toArray, List.set_cons_zero, List.set_cons_succ])
          refine wpAnyH_take (i := 15) (oi := { dst := some 129, op := Op.load 3 (Operand.tmp 128), type := 3, pos := "law.go:99", after := #[{ on := 14, ground := Ground.data }, { on := 12, ground := Ground.guard }], guard := some (12, false) }) (v := ?_) rfl (by kernel_rfl) (by kernel_rfl) (by kernel_rfl) (fun _ _ _ h => h) (Or.inl ⟨by rfl, ?_⟩) hHeld ?_
          rotate_left 1
          · intro w hSw; obtain ⟨e0, e1, e2, e3, e4⟩ := blk5 hSw.2; have s0 := hSw.1.cell 0 (v := .int .i64 c2.level) rfl; clear hSw; go_simp <;> with_reducible rfl
          (try simp only [Act.put, List.setIfInBounds_toArray, List.set_cons_zero, List.set_cons_succ])
          refine wpAnyH_take (i := 17) (oi := { dst := some 131, op := Op.load 42 (Operand.tmp 5), type := 42, pos := "law.go:99", after := #[{ on := 12, ground := Ground.guard }], guard := some (12, false) }) (v := ?_) rfl (by kernel_rfl) (by kernel_rfl) (by kernel_rfl) (fun _ _ _ h => h) (Or.inl ⟨by rfl, ?_⟩) hHeld ?_
          rotate_left 1
          · intro w hSw; (refine exec_loadS (Operand.tmp 5) ?_ p5 ?_ c2 hSw.1 <;> rfl)
          (try simp only [Act.put, List.setIfInBounds_toArray, List.set_cons_zero, List.set_cons_succ])
          refine wpAnyH_take (i := 18) (oi := { dst := some 132, op := Op.fieldAddr 45 (Operand.tmp 9) 1, type := 0, pos := "law.go:99", after := #[{ on := 12, ground := Ground.guard }], guard := some (12, false) }) (v := ?_) rfl (by kernel_rfl) (by kernel_rfl) (by kernel_rfl) (fun _ _ _ h => h) (Or.inl ⟨by rfl, ?_⟩) hHeld ?_
          rotate_left 1
          · intro w hSw; obtain ⟨e0, e1, e2, e3, e4⟩ := blk5 hSw.2; have s0 := hSw.1.cell 0 (v := .int .i64 c2.level) rfl; clear hSw; go_simp <;> with_reducible rfl
          (try simp only [Act.put, List.setIfInBounds_toArray, List.set_cons_zero, List.set_cons_succ])
          refine wpAnyH_take (i := 19) (oi := { dst := some 133, op := Op.load 3 (Operand.tmp 132), type := 3, pos := "law.go:99", after := #[{ on := 18, ground := Ground.data }, { on := 12, ground := Ground.guard }], guard := some (12, false) }) (v := ?_) rfl (by kernel_rfl) (by kernel_rfl) (by kernel_rfl) (fun _ _ _ h => h) (Or.inl ⟨by rfl, ?_⟩) hHeld ?_
          rotate_left 1
          · intro w hSw; obtain ⟨e0, e1, e2, e3, e4⟩ := blk5 hSw.2; have s0 := hSw.1.cell 0 (v := .int .i64 c2.level) rfl; clear hSw; go_simp <;> with_reducible rfl
          (try simp only [Act.put, List.setIfInBounds_toArray, List.set_cons_zero, List.set_cons_succ])
          refine wpAnyH_ready (rs := [16]) (by kernel_rfl) (by simp) ?_
          refine AllReadyH.cons rfl (fun K hK => ?_) AllReadyH.nil
          go_simp
          go_at_call 12
          refine (HUN.out w7 HM7.out.ch).mono ?_
          rintro e w8 ⟨rfl, hw8⟩
          rw [hw8]
          clear hw8
          go_wp2_with fail
          refine hK.out _ _ ⟨HM7.out.bx, HO7.out⟩ (fun hHeld => ?_)
          clear hK K
          (try simp only [Act.put, List.setIfInBounds_toArray, List.set_cons_zero, List.set_cons_succ])
          refine wpAnyH_ready (rs := [20]) (by kernel_rfl) (by simp) ?_
          refine AllReadyH.cons rfl (fun K hK => ?_) AllReadyH.nil
          go_simp
          go_at_call 23
          refine (HRU.out w7).mono ?_
          rintro e w9 ⟨rfl, hb9⟩
          have HM9 := Lib.hid (HM7.out.below hb9)
          have HO9 := Lib.hid (HO7.out.below hb9)
          clear hb9
          go_wp2_with fail
          refine hK.out _ _ ⟨HM9.out.bx, HO9.out⟩ (fun hHeld => ?_)
          clear hK K
          (try simp only [Act.put, List.setIfInBounds_toArray, List.set_cons_zero, List.set_cons_succ])
          refine wpAnyH_take (i := 21) (oi := { dst := some 135, op := Op.binOp BinOp.neq 3 (Operand.tmp 130) (Operand.tmp 134) 3, type := 4, pos := "law.go:99", after := #[{ on := 16, ground := Ground.data }, { on := 20, ground := Ground.data }, { on := 12, ground := Ground.guard }], guard := some (12, false) }) (v := ?_) rfl (by kernel_rfl) (by kernel_rfl) (by kernel_rfl) (fun _ _ _ h => h) (Or.inl ⟨by rfl, ?_⟩) hHeld ?_
          rotate_left 1
          · intro w hSw; obtain ⟨e0, e1, e2, e3, e4⟩ := blk5 hSw.2; have s0 := hSw.1.cell 0 (v := .int .i64 c2.level) rfl; clear hSw; go_simp <;> with_reducible rfl
          (try simp only [Act.put, List.setIfInBounds_toArray, List.set_cons_zero, List.set_cons_succ])
          refine wpAnyH_take (i := 22) (oi := { dst := some 136, op := Op.pick (Operand.tmp 126) (Operand.const (Value.bool true)) (Operand.tmp 135), type := 4, pos := "law.go:99", after := #[{ on := 12, ground := Ground.data }, { on := 21, ground := Ground.data }], guard := none }) (v := ?_) rfl (by kernel_rfl) (by kernel_rfl) (by kernel_rfl) (fun _ _ _ h => h) (Or.inl ⟨by rfl, ?_⟩) hHeld ?_
          rotate_left 1
          · intro w hSw; obtain ⟨e0, e1, e2, e3, e4⟩ := blk5 hSw.2; have s0 := hSw.1.cell 0 (v := .int .i64 c2.level) rfl; clear hSw; go_simp <;> with_reducible rfl
          (try simp only [Act.put, List.setIfInBounds_toArray, List.set_cons_zero, List.set_cons_succ])
          refine wpAnyH_done (by kernel_rfl) ?_ _
          refine NoPanic.normal ?_
          go_wp2_with fail
          go_roundw
          case rel => exact ⟨k + 1, T, c2, by omega, by go_num, rfl, by rw [HSM.out], hT0, hT1, HM9⟩
          case measure => simp [intOf]; omega
    · obtain rfl : k = ops.length := by omega
      obtain ⟨wb, hwb⟩ : ∃ wb : World, wb = wr := ⟨_, rfl⟩
      rw [← hwb] at HS ⊢
      clear hwb
      go_wp2_with fail
      refine (awake23 wb).mono ?_
      rintro e w7 ⟨rfl, hb7⟩
      have HB7 := Lib.hid (bmore (bmore HL2.out HS.out.bel HL2.out.size) hb7 (Nat.le_trans HL2.out.size HS.out.bel.size))
      clear hb7
      go_wp2
      go_ret
      exact ⟨rfl, HB7.out⟩
end Go.Proofs.Ytmiholjmagobhaa
