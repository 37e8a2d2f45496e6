/- clr: the law's step, the other calls. -/
import Derived.Test.YthnnhagccemnnaaClrStep
namespace Go.Proofs.Ythnnhagccemnnaa
open Go.RowKit
set_option linter.unusedVariables false
set_option linter.unusedSimpArgs false

set_option maxRecDepth 100000 in
set_option maxHeartbeats 2000000 in
theorem step_2 (b : Nat) (v : Value) (s : CSt) (lim now fr ag lt rt : Int) (w : World) (h : BkAt w b v (told s 64) lim s.clr) (ho : SOk s) (hl : 0 ≤ lim) (hw : 0 ≤ now ∧ now ≤ 1000000) :
    Calls Try.prog 13 #[.pointer (some ⟨b, 0, none⟩), .agg (stC s), .int .i64 lim, .int .i64 now, .agg (opC 2 fr ag lt rt)] w fun e w' => ∃ s', e = .returned (.tuple #[.agg (stC s'), .bool true]) ∧ StR w w' b v lim s' := by
  have H := Lib.hid h
  have HO := Lib.hid ho
  have hrt := fun w => refleave_any s fr w
  have hbt := fun w h => bleave_any b v s lim fr w h
  have hso := ho.leave fr
  obtain ⟨s2, hs2⟩ : ∃ x, x = leaveS s fr := ⟨_, rfl⟩
  obtain ⟨B, hE⟩ : ∃ x, x = (leaveB s fr && decide (s.clr = fr)) := ⟨_, rfl⟩
  rw [← hs2, ← hE] at hrt hbt
  rw [← hs2] at hso
  have HRT := Lib.hid hrt
  have HBT := Lib.hid hbt
  have HSO := Lib.hid hso
  unfold opC
  clear h ho hs2 hE hrt hbt hso
  go_enter Try.func13, Try.ntmps13
  go_wp2_with (first
    | (refine wpList_boxS rfl _ rfl s rfl ?_; rintro w1 - HB1 HL1 hs1)
    | (refine wpList_allocS rfl rfl ?_; rintro w2 - HZ2 HL2 hs2; have HSE := Lib.hid (se_start H.out HB1.out HL1.out hs1.out HZ2.out HL2.out); obtain ⟨x0, x1, x2, x3, x4⟩ := blk5 HSE.out.1.b9;  clear HB1 HL1 HZ2 HL2 hs2)
    | (refine wpList_loadS rfl _ rfl _ rfl s ?_ ?_; exact HSE.out.1.b6))
  refine (HRT.out w2).mono ?_
  rintro e w3 ⟨rfl, hb3⟩
  have HSE3 := Lib.hid (HSE.out.1.below hb3)
  clear hb3
  go_wp2_with (first
    | (refine wpList_allocS rfl rfl ?_; rintro w4 - HZ4 HL4 hs4)
    | (refine wpList_storeS rfl _ _ rfl _ rfl s2 (st0 0) rfl ?_ ?_; exact HZ4.out; rintro w5 HB5 HK5; have HSE5 := Lib.hid (HSE3.out.below (bkeep HL4.out HK5.out (Nat.le_refl _) (fun q h => by omega))); clear HZ4 HL4 HK5))
  clear x0 x1 x2 x3 x4
  have hSW : Blk w5.drew w3.heap.size (stC s2) 45 ∧ Blk w5.drew w1.heap.size #[.int .i64 2, .int .i64 fr, .int .i64 ag, .int .i64 lt, .int .u64 rt] 31 := ⟨HB5.out, HSE5.out.b9⟩
  have hee : (B == B) = true := by simp
  refine wp_region_heldT (S := fun w' => Blk w' w3.heap.size (stC s2) 45 ∧ Blk w' w1.heap.size #[.int .i64 2, .int .i64 fr, .int .i64 ag, .int .i64 lt, .int .u64 rt] 31) 7 (by kernel_rfl) hSW (fun hHeld => ?_)
  refine heldT_takeC [] (i := 0) (v := ?_) rfl (by kernel_rfl) (by kernel_rfl) (by kernel_rfl) (by kernel_rfl) (fun _ _ _ h => h) (Or.inl ⟨by rfl, ?_⟩) hHeld ?_
  rotate_left 1
  · intro wS hSw; (refine exec_loadS (Operand.tmp 15) ?_ w3.heap.size ?_ s2 hSw.1 <;> rfl)
  (try simp only [Act.put, List.setIfInBounds_toArray, List.set_cons_zero, List.set_cons_succ])
  refine heldT_free (i := 1) (v := ?_) rfl (by kernel_rfl) (by kernel_rfl) (by kernel_rfl) (by kernel_rfl) (fun _ _ _ h => h) (Or.inl ⟨by rfl, ?_⟩) hHeld ?_
  rotate_left 1
  · intro wS; go_simp <;> with_reducible rfl
  (try simp only [Act.put, List.setIfInBounds_toArray, List.set_cons_zero, List.set_cons_succ])
  refine heldT_free (i := 2) (v := ?_) rfl (by kernel_rfl) (by kernel_rfl) (by kernel_rfl) (by kernel_rfl) (fun _ _ _ h => h) (Or.inl ⟨by rfl, ?_⟩) hHeld ?_
  rotate_left 1
  · intro wS; go_simp <;> with_reducible rfl
  (try simp only [Act.put, List.setIfInBounds_toArray, List.set_cons_zero, List.set_cons_succ])
  refine heldT_takeC [4] (i := 3) (v := ?_) rfl (by kernel_rfl) (by kernel_rfl) (by kernel_rfl) (by kernel_rfl) (fun _ _ _ h => h) (Or.inl ⟨by rfl, ?_⟩) hHeld ?_
  rotate_left 1
  · intro wS hSw; obtain ⟨e0, e1, e2, e3, e4⟩ := blk5 hSw.2; clear hSw; go_simp <;> with_reducible rfl
  (try simp only [Act.put, List.setIfInBounds_toArray, List.set_cons_zero, List.set_cons_succ])
  refine heldT_free (i := 5) (v := ?_) rfl (by kernel_rfl) (by kernel_rfl) (by kernel_rfl) (by kernel_rfl) (fun _ _ _ h => h) (Or.inl ⟨by rfl, ?_⟩) hHeld ?_
  rotate_left 1
  · intro wS; go_simp <;> with_reducible rfl
  (try simp only [Act.put, List.setIfInBounds_toArray, List.set_cons_zero, List.set_cons_succ])
  refine heldT_one (j := 4) (by kernel_rfl) (by kernel_rfl) rfl (fun K hK => ?_)
  go_simp
  go_at_call 21
  refine (HBT.out w5.drew HSE5.out.bk.drew).mono ?_
  rintro e w6 ⟨rfl, hch⟩
  have HB6 := Lib.hid (HB5.out.drew.keep hch.kp (HSE.out.2.off (by have := HSE3.out.bel.size; omega)))
  have HO6 := Lib.hid (HSE5.out.b9.drew.keep hch.kp (HSE.out.2.off HSE.out.2.l9))
  have HB10 := Lib.hid (HSE5.out.b10.drew.keep hch.kp (HSE.out.2.off HSE.out.2.l10))
  have HCH : Hid (ChO w w6 b v lim s2 (w1.heap.size + 1)) := chO_of (HSE5.out.bel.drew) (HSE5.out.b10.drew.lt) hch
  clear hch
  go_wp2_with fail
  refine hK.out _ _ ⟨HB6.out, HO6.out⟩ (fun hHeld => ?_)
  clear hK K
  (try simp only [Act.put, List.setIfInBounds_toArray, List.set_cons_zero, List.set_cons_succ])
  refine heldT_free (i := 6) (v := ?_) rfl (by kernel_rfl) (by kernel_rfl) (by kernel_rfl) (by kernel_rfl) (fun _ _ _ h => h) (Or.inl ⟨by rfl, ?_⟩) hHeld ?_
  rotate_left 1
  · intro wS; go_simp <;> with_reducible rfl
  (try simp only [Act.put, List.setIfInBounds_toArray, List.set_cons_zero, List.set_cons_succ])
  refine heldT_tail (by kernel_rfl) rfl rfl (by kernel_rfl) ?_
  (try simp only [List.drop_succ_cons, List.drop_zero])
  go_wp2_with (refine wpList_storeS rfl _ _ rfl _ rfl s2 (st0 0) rfl ?_ ?_; exact HB10.out; rintro w9 HB9 HK9)
  refine NoPanic.normal ?_
  have hr := run_loadVar_row (P := Try.prog) w9 (w1.heap.size + 1) _ _ _ (0, 0) _ HB9.out Try.underlying45 rfl (by rw [stC_size]; exact info_st1)
  go_wp2_with fail
  exact bodyPost_ret (v := .tuple #[.agg (stC s2), .bool true]) (by simp [results, Try.f13, Act.put, asAddr, hr]) rfl ⟨s2, rfl, HSO.out, HCH.out.fin HK9.out HSE.out.2.lv HSE.out.2.lb HSE.out.2.l10⟩
set_option maxRecDepth 100000 in
set_option maxHeartbeats 2000000 in
theorem step_3a (b : Nat) (v : Value) (s : CSt) (lim now fr ag lt rt : Int) (w : World) (h : BkAt w b v (told s 64) lim s.clr) (ho : SOk s) (hl : 0 ≤ lim) (hw : 0 ≤ now ∧ now ≤ 1000000) (hp : passB s lim now = false) (hc : s.clr < 0) :
    Calls Try.prog 13 #[.pointer (some ⟨b, 0, none⟩), .agg (stC s), .int .i64 lim, .int .i64 now, .agg (opC 3 fr ag lt rt)] w fun e w' => ∃ s', e = .returned (.tuple #[.agg (stC s'), .bool true]) ∧ StR w w' b v lim s' := by
  have H := Lib.hid h
  have HO := Lib.hid ho
  have hbt := fun w h => bpass_any b v s lim now w h ho hl ⟨hw.1, by omega⟩
  have hps : passS s lim now = s := if_neg (by rw [hp]; decide)
  rw [hps, hp] at hbt
  have HBT := Lib.hid hbt
  have HSO := Lib.hid ho
  have HS3 := Lib.hid (st_clr s)
  obtain ⟨cc, hcc⟩ : ∃ x, x = s.clr := ⟨_, rfl⟩
  rw [← hcc] at HS3 hc
  unfold opC
  clear h ho hbt hps hp hcc
  go_enter Try.func13, Try.ntmps13
  go_wp2_with (first
    | (refine wpList_boxS rfl _ rfl s rfl ?_; rintro w1 - HB1 HL1 hs1)
    | (refine wpList_allocS rfl rfl ?_; rintro w2 - HZ2 HL2 hs2; have HSE := Lib.hid (se_start H.out HB1.out HL1.out hs1.out HZ2.out HL2.out); obtain ⟨x0, x1, x2, x3, x4⟩ := blk5 HSE.out.1.b9; have a3 := HSE.out.1.b6.cell _ HS3.out; clear HB1 HL1 HZ2 HL2 hs2)
    | (refine wpList_loadS rfl _ rfl _ rfl s ?_ ?_; exact HSE.out.1.b6))
  clear x0 x1 x2 x3 x4 a3
  have hSW : Blk w2.drew w.heap.size (stC s) 45 ∧ Blk w2.drew w1.heap.size #[.int .i64 3, .int .i64 fr, .int .i64 ag, .int .i64 lt, .int .u64 rt] 31 := ⟨HSE.out.1.b6, HSE.out.1.b9⟩
  refine wp_region_heldT (S := fun w' => Blk w' w.heap.size (stC s) 45 ∧ Blk w' w1.heap.size #[.int .i64 3, .int .i64 fr, .int .i64 ag, .int .i64 lt, .int .u64 rt] 31) 5 (by kernel_rfl) hSW (fun hHeld => ?_)
  refine heldT_takeC [] (i := 0) (v := ?_) rfl (by kernel_rfl) (by kernel_rfl) (by kernel_rfl) (by kernel_rfl) (fun _ _ _ h => h) (Or.inl ⟨by rfl, ?_⟩) hHeld ?_
  rotate_left 1
  · intro wS hSw; (refine exec_loadS (Operand.tmp 6) ?_ w.heap.size ?_ s hSw.1 <;> rfl)
  (try simp only [Act.put, List.setIfInBounds_toArray, List.set_cons_zero, List.set_cons_succ])
  refine heldT_free (i := 1) (v := ?_) rfl (by kernel_rfl) (by kernel_rfl) (by kernel_rfl) (by kernel_rfl) (fun _ _ _ h => h) (Or.inl ⟨by rfl, ?_⟩) hHeld ?_
  rotate_left 1
  · intro wS; go_simp <;> with_reducible rfl
  (try simp only [Act.put, List.setIfInBounds_toArray, List.set_cons_zero, List.set_cons_succ])
  refine heldT_free (i := 2) (v := ?_) rfl (by kernel_rfl) (by kernel_rfl) (by kernel_rfl) (by kernel_rfl) (fun _ _ _ h => h) (Or.inl ⟨by rfl, ?_⟩) hHeld ?_
  rotate_left 1
  · intro wS; go_simp <;> with_reducible rfl
  (try simp only [Act.put, List.setIfInBounds_toArray, List.set_cons_zero, List.set_cons_succ])
  refine heldT_one (j := 3) (by kernel_rfl) (by kernel_rfl) rfl (fun K hK => ?_)
  go_simp
  go_at_call 12
  refine (HBT.out w2.drew HSE.out.1.bk.drew).mono ?_
  rintro e w6 ⟨rfl, hch⟩
  have HB6 := Lib.hid (HSE.out.1.b6.drew.keep hch.kp (HSE.out.2.off HSE.out.2.l6))
  have HO6 := Lib.hid (HSE.out.1.b9.drew.keep hch.kp (HSE.out.2.off HSE.out.2.l9))
  have HB10 := Lib.hid (HSE.out.1.b10.drew.keep hch.kp (HSE.out.2.off HSE.out.2.l10))
  have HCH : Hid (ChO w w6 b v lim s (w1.heap.size + 1)) := chO_of (HSE.out.1.bel.drew) (HSE.out.1.b10.drew.lt) hch
  clear hch
  go_wp2_with fail
  refine hK.out _ _ ⟨HB6.out, HO6.out⟩ (fun hHeld => ?_)
  clear hK K
  (try simp only [Act.put, List.setIfInBounds_toArray, List.set_cons_zero, List.set_cons_succ])
  refine heldT_free (i := 4) (v := ?_) rfl (by kernel_rfl) (by kernel_rfl) (by kernel_rfl) (by kernel_rfl) (fun _ _ _ h => h) (Or.inl ⟨by rfl, ?_⟩) hHeld ?_
  rotate_left 1
  · intro wS; go_simp <;> with_reducible rfl
  (try simp only [Act.put, List.setIfInBounds_toArray, List.set_cons_zero, List.set_cons_succ])
  refine heldT_tail (by kernel_rfl) rfl rfl (by kernel_rfl) ?_
  (try simp only [List.drop_succ_cons, List.drop_zero])
  go_wp2_with (refine wpList_storeS rfl _ _ rfl _ rfl s (st0 0) rfl ?_ ?_; exact HB10.out; rintro w9 HB9 HK9)
  refine NoPanic.normal ?_
  have hr := run_loadVar_row (P := Try.prog) w9 (w1.heap.size + 1) _ _ _ (0, 0) _ HB9.out Try.underlying45 rfl (by rw [stC_size]; exact info_st1)
  go_wp2_with fail
  exact bodyPost_ret (v := .tuple #[.agg (stC s), .bool true]) (by simp [results, Try.f13, Act.put, asAddr, hr]) rfl ⟨s, rfl, HSO.out, HCH.out.fin HK9.out HSE.out.2.lv HSE.out.2.lb HSE.out.2.l10⟩
set_option maxRecDepth 100000 in
set_option maxHeartbeats 2000000 in
theorem step_3b (b : Nat) (v : Value) (s : CSt) (lim now fr ag lt rt : Int) (w : World) (h : BkAt w b v (told s 64) lim s.clr) (ho : SOk s) (hl : 0 ≤ lim) (hw : 0 ≤ now ∧ now ≤ 1000000) (q : Nat) (hp : passB s lim now = false) (hc : s.clr = q) (hq : q < 64) (htk : 0 ≤ tkO (s.at' q) ∧ tkO (s.at' q) ≤ 1099511627776) :
    Calls Try.prog 13 #[.pointer (some ⟨b, 0, none⟩), .agg (stC s), .int .i64 lim, .int .i64 now, .agg (opC 3 fr ag lt rt)] w fun e w' => ∃ s', e = .returned (.tuple #[.agg (stC s'), .bool true]) ∧ StR w w' b v lim s' := by
  have H := Lib.hid h
  have HO := Lib.hid ho
  have hbt := fun w h => bpass_any b v s lim now w h ho hl ⟨hw.1, by omega⟩
  have hps : passS s lim now = s := if_neg (by rw [hp]; decide)
  rw [hps, hp] at hbt
  have HBT := Lib.hid hbt
  have HSO := Lib.hid ho
  have HS3 := Lib.hid (st_clr s)
  have HS4 := Lib.hid (st_tick s hq)
  have hnp : ¬ lim < now - tkO (s.at' q) := by
    unfold passB at hp
    rw [hc, Int.toNat_natCast, decide_eq_true (by omega : (0 : Int) ≤ (q : Int))] at hp
    simpa using hp
  rw [hc] at HS3
  obtain ⟨tq, htq⟩ : ∃ x, x = tkO (s.at' q) := ⟨_, rfl⟩
  rw [← htq] at HS4 hnp htk
  have j1 : (q : Int) < 64 := by omega
  have j2 : ¬ (q : Int) < 0 := by omega
  have j3 : now - tq ≤ lim := by omega
  unfold opC
  clear h ho hbt hps hp htq hc
  go_enter Try.func13, Try.ntmps13
  go_wp2_with (first
    | (refine wpList_boxS rfl _ rfl s rfl ?_; rintro w1 - HB1 HL1 hs1)
    | (refine wpList_allocS rfl rfl ?_; rintro w2 - HZ2 HL2 hs2; have HSE := Lib.hid (se_start H.out HB1.out HL1.out hs1.out HZ2.out HL2.out); obtain ⟨x0, x1, x2, x3, x4⟩ := blk5 HSE.out.1.b9; have a3 := HSE.out.1.b6.cell _ HS3.out; have a4 := HSE.out.1.b6.cell _ HS4.out; clear HB1 HL1 HZ2 HL2 hs2)
    | (refine wpList_loadS rfl _ rfl _ rfl s ?_ ?_; exact HSE.out.1.b6))
  clear x0 x1 x2 x3 x4 a3 a4
  have hSW : Blk w2.drew w.heap.size (stC s) 45 ∧ Blk w2.drew w1.heap.size #[.int .i64 3, .int .i64 fr, .int .i64 ag, .int .i64 lt, .int .u64 rt] 31 := ⟨HSE.out.1.b6, HSE.out.1.b9⟩
  refine wp_region_heldT (S := fun w' => Blk w' w.heap.size (stC s) 45 ∧ Blk w' w1.heap.size #[.int .i64 3, .int .i64 fr, .int .i64 ag, .int .i64 lt, .int .u64 rt] 31) 5 (by kernel_rfl) hSW (fun hHeld => ?_)
  refine heldT_takeC [] (i := 0) (v := ?_) rfl (by kernel_rfl) (by kernel_rfl) (by kernel_rfl) (by kernel_rfl) (fun _ _ _ h => h) (Or.inl ⟨by rfl, ?_⟩) hHeld ?_
  rotate_left 1
  · intro wS hSw; (refine exec_loadS (Operand.tmp 6) ?_ w.heap.size ?_ s hSw.1 <;> rfl)
  (try simp only [Act.put, List.setIfInBounds_toArray, List.set_cons_zero, List.set_cons_succ])
  refine heldT_free (i := 1) (v := ?_) rfl (by kernel_rfl) (by kernel_rfl) (by kernel_rfl) (by kernel_rfl) (fun _ _ _ h => h) (Or.inl ⟨by rfl, ?_⟩) hHeld ?_
  rotate_left 1
  · intro wS; go_simp <;> with_reducible rfl
  (try simp only [Act.put, List.setIfInBounds_toArray, List.set_cons_zero, List.set_cons_succ])
  refine heldT_free (i := 2) (v := ?_) rfl (by kernel_rfl) (by kernel_rfl) (by kernel_rfl) (by kernel_rfl) (fun _ _ _ h => h) (Or.inl ⟨by rfl, ?_⟩) hHeld ?_
  rotate_left 1
  · intro wS; go_simp <;> with_reducible rfl
  (try simp only [Act.put, List.setIfInBounds_toArray, List.set_cons_zero, List.set_cons_succ])
  refine heldT_one (j := 3) (by kernel_rfl) (by kernel_rfl) rfl (fun K hK => ?_)
  go_simp
  go_at_call 12
  refine (HBT.out w2.drew HSE.out.1.bk.drew).mono ?_
  rintro e w6 ⟨rfl, hch⟩
  have HB6 := Lib.hid (HSE.out.1.b6.drew.keep hch.kp (HSE.out.2.off HSE.out.2.l6))
  have HO6 := Lib.hid (HSE.out.1.b9.drew.keep hch.kp (HSE.out.2.off HSE.out.2.l9))
  have HB10 := Lib.hid (HSE.out.1.b10.drew.keep hch.kp (HSE.out.2.off HSE.out.2.l10))
  have HCH : Hid (ChO w w6 b v lim s (w1.heap.size + 1)) := chO_of (HSE.out.1.bel.drew) (HSE.out.1.b10.drew.lt) hch
  clear hch
  go_wp2_with fail
  refine hK.out _ _ ⟨HB6.out, HO6.out⟩ (fun hHeld => ?_)
  clear hK K
  (try simp only [Act.put, List.setIfInBounds_toArray, List.set_cons_zero, List.set_cons_succ])
  refine heldT_free (i := 4) (v := ?_) rfl (by kernel_rfl) (by kernel_rfl) (by kernel_rfl) (by kernel_rfl) (fun _ _ _ h => h) (Or.inl ⟨by rfl, ?_⟩) hHeld ?_
  rotate_left 1
  · intro wS; go_simp <;> with_reducible rfl
  (try simp only [Act.put, List.setIfInBounds_toArray, List.set_cons_zero, List.set_cons_succ])
  refine heldT_tail (by kernel_rfl) rfl rfl (by kernel_rfl) ?_
  (try simp only [List.drop_succ_cons, List.drop_zero])
  go_wp2_with (refine wpList_storeS rfl _ _ rfl _ rfl s (st0 0) rfl ?_ ?_; exact HB10.out; rintro w9 HB9 HK9)
  refine NoPanic.normal ?_
  have hr := run_loadVar_row (P := Try.prog) w9 (w1.heap.size + 1) _ _ _ (0, 0) _ HB9.out Try.underlying45 rfl (by rw [stC_size]; exact info_st1)
  go_wp2_with fail
  exact bodyPost_ret (v := .tuple #[.agg (stC s), .bool true]) (by simp [results, Try.f13, Act.put, asAddr, hr]) rfl ⟨s, rfl, HSO.out, HCH.out.fin HK9.out HSE.out.2.lv HSE.out.2.lb HSE.out.2.l10⟩
set_option maxRecDepth 100000 in
set_option maxHeartbeats 2000000 in
theorem step_3c (b : Nat) (v : Value) (s : CSt) (lim now fr ag lt rt : Int) (w : World) (h : BkAt w b v (told s 64) lim s.clr) (ho : SOk s) (hl : 0 ≤ lim) (hw : 0 ≤ now ∧ now ≤ 1000000) (q : Nat) (hp : passB s lim now = true) (hc : s.clr = q) (hq : q < 64) (htk : 0 ≤ tkO (s.at' q) ∧ tkO (s.at' q) ≤ 1099511627776) :
    Calls Try.prog 13 #[.pointer (some ⟨b, 0, none⟩), .agg (stC s), .int .i64 lim, .int .i64 now, .agg (opC 3 fr ag lt rt)] w fun e w' => ∃ s', e = .returned (.tuple #[.agg (stC s'), .bool true]) ∧ StR w w' b v lim s' := by
  have H := Lib.hid h
  have HO := Lib.hid ho
  have hbt := fun w h => bpass_any b v s lim now w h ho hl ⟨hw.1, by omega⟩
  have hrt := fun w => refleave_any s q w
  have hso := ho.leave q
  have hps : passS s lim now = leaveS s q := (if_pos hp).trans (by rw [hc])
  rw [hps, hp] at hbt
  obtain ⟨s2, hs2⟩ : ∃ x, x = leaveS s q := ⟨_, rfl⟩
  obtain ⟨B, hE⟩ : ∃ x, x = (leaveB s q && decide (s.clr = (q : Int))) := ⟨_, rfl⟩
  rw [← hs2] at hbt hrt hso
  rw [← hE] at hrt
  have HBT := Lib.hid hbt
  have HRT := Lib.hid hrt
  have HSO := Lib.hid hso
  have HS3 := Lib.hid (st_clr s)
  have HS4 := Lib.hid (st_tick s hq)
  have hnp : lim < now - tkO (s.at' q) := by
    unfold passB at hp
    rw [hc, Int.toNat_natCast, decide_eq_true (by omega : (0 : Int) ≤ (q : Int))] at hp
    simpa using hp
  rw [hc] at HS3
  obtain ⟨tq, htq⟩ : ∃ x, x = tkO (s.at' q) := ⟨_, rfl⟩
  rw [← htq] at HS4 hnp htk
  have j1 : (q : Int) < 64 := by omega
  have j2 : ¬ (q : Int) < 0 := by omega
  have j3 : ¬ now - tq ≤ lim := by omega
  unfold opC
  clear h ho hbt hrt hso hps hp htq hc hs2 hE
  go_enter Try.func13, Try.ntmps13
  go_wp2_with (first
    | (refine wpList_boxS rfl _ rfl s rfl ?_; rintro w1 - HB1 HL1 hs1)
    | (refine wpList_allocS rfl rfl ?_; rintro w2 - HZ2 HL2 hs2; have HSE := Lib.hid (se_start H.out HB1.out HL1.out hs1.out HZ2.out HL2.out); obtain ⟨x0, x1, x2, x3, x4⟩ := blk5 HSE.out.1.b9; have a3 := HSE.out.1.b6.cell _ HS3.out; have a4 := HSE.out.1.b6.cell _ HS4.out; clear HB1 HL1 HZ2 HL2 hs2)
    | (refine wpList_loadS rfl _ rfl _ rfl s ?_ ?_; exact HSE.out.1.b6))
  refine (HRT.out w2).mono ?_
  rintro e w3 ⟨rfl, hb3⟩
  have HSE3 := Lib.hid (HSE.out.1.below hb3)
  clear hb3
  go_wp2_with (first
    | (refine wpList_allocS rfl rfl ?_; rintro w4 - HZ4 HL4 hs4)
    | (refine wpList_storeS rfl _ _ rfl _ rfl s2 (st0 0) rfl ?_ ?_; exact HZ4.out; rintro w5 HB5 HK5; have HSE5 := Lib.hid (HSE3.out.below (bkeep HL4.out HK5.out (Nat.le_refl _) (fun q h => by omega))); clear HZ4 HL4 HK5))
  clear x0 x1 x2 x3 x4 a3 a4
  have hSW : Blk w5.drew w3.heap.size (stC s2) 45 ∧ Blk w5.drew w1.heap.size #[.int .i64 3, .int .i64 fr, .int .i64 ag, .int .i64 lt, .int .u64 rt] 31 := ⟨HB5.out, HSE5.out.b9⟩
  refine wp_region_heldT (S := fun w' => Blk w' w3.heap.size (stC s2) 45 ∧ Blk w' w1.heap.size #[.int .i64 3, .int .i64 fr, .int .i64 ag, .int .i64 lt, .int .u64 rt] 31) 4 (by kernel_rfl) hSW (fun hHeld => ?_)
  refine heldT_takeC [] (i := 0) (v := ?_) rfl (by kernel_rfl) (by kernel_rfl) (by kernel_rfl) (by kernel_rfl) (fun _ _ _ h => h) (Or.inl ⟨by rfl, ?_⟩) hHeld ?_
  rotate_left 1
  · intro wS hSw; (refine exec_loadS (Operand.tmp 17) ?_ w3.heap.size ?_ s2 hSw.1 <;> rfl)
  (try simp only [Act.put, List.setIfInBounds_toArray, List.set_cons_zero, List.set_cons_succ])
  refine heldT_free (i := 1) (v := ?_) rfl (by kernel_rfl) (by kernel_rfl) (by kernel_rfl) (by kernel_rfl) (fun _ _ _ h => h) (Or.inl ⟨by rfl, ?_⟩) hHeld ?_
  rotate_left 1
  · intro wS; go_simp <;> with_reducible rfl
  (try simp only [Act.put, List.setIfInBounds_toArray, List.set_cons_zero, List.set_cons_succ])
  refine heldT_free (i := 2) (v := ?_) rfl (by kernel_rfl) (by kernel_rfl) (by kernel_rfl) (by kernel_rfl) (fun _ _ _ h => h) (Or.inl ⟨by rfl, ?_⟩) hHeld ?_
  rotate_left 1
  · intro wS; go_simp <;> with_reducible rfl
  (try simp only [Act.put, List.setIfInBounds_toArray, List.set_cons_zero, List.set_cons_succ])
  refine heldT_one (j := 3) (by kernel_rfl) (by kernel_rfl) rfl (fun K hK => ?_)
  go_simp
  go_at_call 12
  refine (HBT.out w5.drew HSE5.out.bk.drew).mono ?_
  rintro e w6 ⟨rfl, hch⟩
  have HB6 := Lib.hid (HB5.out.drew.keep hch.kp (HSE.out.2.off (by have := HSE3.out.bel.size; omega)))
  have HO6 := Lib.hid (HSE5.out.b9.drew.keep hch.kp (HSE.out.2.off HSE.out.2.l9))
  have HB10 := Lib.hid (HSE5.out.b10.drew.keep hch.kp (HSE.out.2.off HSE.out.2.l10))
  have HCH : Hid (ChO w w6 b v lim s2 (w1.heap.size + 1)) := chO_of (HSE5.out.bel.drew) (HSE5.out.b10.drew.lt) hch
  clear hch
  go_wp2_with fail
  refine hK.out _ _ ⟨HB6.out, HO6.out⟩ (fun hHeld => ?_)
  clear hK K
  (try simp only [Act.put, List.setIfInBounds_toArray, List.set_cons_zero, List.set_cons_succ])
  refine heldT_tail (by kernel_rfl) rfl rfl (by kernel_rfl) ?_
  (try simp only [List.drop_succ_cons, List.drop_zero])
  go_wp2_with (refine wpList_storeS rfl _ _ rfl _ rfl s2 (st0 0) rfl ?_ ?_; exact HB10.out; rintro w9 HB9 HK9)
  refine NoPanic.normal ?_
  have hr := run_loadVar_row (P := Try.prog) w9 (w1.heap.size + 1) _ _ _ (0, 0) _ HB9.out Try.underlying45 rfl (by rw [stC_size]; exact info_st1)
  go_wp2_with fail
  exact bodyPost_ret (v := .tuple #[.agg (stC s2), .bool true]) (by simp [results, Try.f13, Act.put, asAddr, hr]) rfl ⟨s2, rfl, HSO.out, HCH.out.fin HK9.out HSE.out.2.lv HSE.out.2.lb HSE.out.2.l10⟩
set_option maxRecDepth 100000 in
set_option maxHeartbeats 2000000 in
theorem step_0 (b : Nat) (v : Value) (s : CSt) (lim now kd fr ag lt rt : Int) (w : World) (h : BkAt w b v (told s 64) lim s.clr) (ho : SOk s) (hl : 0 ≤ lim) (hw : 0 ≤ now ∧ now ≤ 1000000) (h1 : (kd == 1) = false) (h2 : (kd == 2) = false) (h3 : (kd == 3) = false) :
    Calls Try.prog 13 #[.pointer (some ⟨b, 0, none⟩), .agg (stC s), .int .i64 lim, .int .i64 now, .agg (opC kd fr ag lt rt)] w fun e w' => ∃ s', e = .returned (.tuple #[.agg (stC s'), .bool true]) ∧ StR w w' b v lim s' := by
  have H := Lib.hid h
  have HO := Lib.hid ho
  have HSO := Lib.hid ho
  unfold opC
  clear h ho
  go_enter Try.func13, Try.ntmps13
  go_wp2_with (first
    | (refine wpList_boxS rfl _ rfl s rfl ?_; rintro w1 - HB1 HL1 hs1)
    | (refine wpList_allocS rfl rfl ?_; rintro w2 - HZ2 HL2 hs2; have HSE := Lib.hid (se_start H.out HB1.out HL1.out hs1.out HZ2.out HL2.out); obtain ⟨x0, x1, x2, x3, x4⟩ := blk5 HSE.out.1.b9;  clear HB1 HL1 HZ2 HL2 hs2)
    | (refine wpList_loadS rfl _ rfl _ rfl s ?_ ?_; exact HSE.out.1.b6)
    | (refine wpList_storeS rfl _ _ rfl _ rfl s (st0 0) rfl ?_ ?_; exact HSE.out.1.b10; rintro w9 HB9 HK9))
  have hr := run_loadVar_row (P := Try.prog) w9 (w1.heap.size + 1) _ _ _ (0, 0) _ HB9.out Try.underlying45 rfl (by rw [stC_size]; exact info_st1)
  exact bodyPost_ret (v := .tuple #[.agg (stC s), .bool true]) (by simp [results, Try.f13, Act.put, asAddr, hr]) rfl ⟨s, rfl, HSO.out, (chO_of HSE.out.1.bel HSE.out.1.b10.lt (Chg.below HSE.out.1.bk (Below.refl _ _))).fin HK9.out HSE.out.2.lv HSE.out.2.lb HSE.out.2.l10⟩
theorem step_any (b : Nat) (v : Value) (s : CSt) (lim now kd fr ag lt rt : Int) (w : World) (h : BkAt w b v (told s 64) lim s.clr) (ho : SOk s) (hl : 0 ≤ lim) (hw : 0 ≤ now ∧ now ≤ 1000000) :
    Calls Try.prog 13 #[.pointer (some ⟨b, 0, none⟩), .agg (stC s), .int .i64 lim, .int .i64 now, .agg (opC kd fr ag lt rt)] w fun e w' => ∃ s', e = .returned (.tuple #[.agg (stC s'), .bool true]) ∧ StR w w' b v lim s' := by
  by_cases k1 : kd = 1
  · subst k1; exact step_1 b v s lim now fr ag lt rt w h ho hl hw
  by_cases k2 : kd = 2
  · subst k2; exact step_2 b v s lim now fr ag lt rt w h ho hl hw
  by_cases k3 : kd = 3
  · subst k3
    rcases ho.clr with e | ⟨q, hq, e, hs⟩
    · have hp : passB s lim now = false := by unfold passB; rw [e]; rfl
      exact step_3a b v s lim now fr ag lt rt w h ho hl hw hp (by omega)
    · cases hp : passB s lim now with
      | false => exact step_3b b v s lim now fr ag lt rt w h ho hl hw q hp e hq (ho.tick q hq)
      | true => exact step_3c b v s lim now fr ag lt rt w h ho hl hw q hp e hq (ho.tick q hq)
  · exact step_0 b v s lim now kd fr ag lt rt w h ho hl hw (by simpa using k1) (by simpa using k2) (by simpa using k3)
end Go.Proofs.Ythnnhagccemnnaa
