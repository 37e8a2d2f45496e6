/- simnet: the law's step of kind 1, refused. -/
import Derived.Test.YtlodiibmofeikaaQNetStepA
namespace Go.Proofs.Ytlodiibmofeikaa
open Go.RowKit Go.Shelf
set_option linter.unusedVariables false
set_option linter.unusedSimpArgs false
set_option maxRecDepth 100000 in
set_option maxHeartbeats 4000000 in
theorem step_1n (w : World) {col : Nat → Nat} {nb n : Nat} {delay room j lv : Int} {F : List FD} {m : MD} {k : Nat} {t : Int} (h : NM w col nb n delay room j lv F m k t) (hk : k < 1000) (now : Int) (ht : t ≤ now ∧ now ≤ t + 100) (r level later : Int) (tA : Option Addr) (tn tc : Nat) (bs : List Int) (hx : Reads w 1 (.slice tA tn tc) tn (u8s bs)) (hbs : bs.length = tn) (hbt : BtsI bs) (hxo : ∀ g, (Value.slice tA tn tc).ownBlock = some g → 0 < tn → col g = 0 ∧ g < w.heap.size) (hno : ¬ (0 ≤ r ∧ r < (n : Int) ∧ -1 ≤ level ∧ level ≤ 7)) :
    Calls Try.prog 19 #[.agg (modC m), .pointer (some ⟨nb, 0, none⟩), .agg #[.int .i64 1, .int .i64 r, .int .i64 level, .int .i64 later, .slice tA tn tc], .int .i64 now] w fun e w' => ∃ m', e = .returned (.tuple #[.agg (modC m'), .bool true]) ∧ SR w w' col nb n delay room j lv F m' (k + 1) now := by
  have H := Lib.hid h
  have hrc := h.cfg.1
  obtain ⟨hb4, hb6, hb8, hb9, hbl, hzz⟩ := boxes4n w (modC m) #[.int .i64 1, .int .i64 r, .int .i64 level, .int .i64 later, .slice tA tn tc] (modC md0) #[.bool false] 59 61 59 4
  have hx0 : ((((w.alloc (.cells (modC m) 59)).alloc (.cells #[.int .i64 1, .int .i64 r, .int .i64 level, .int .i64 later, .slice tA tn tc] 61)).alloc (.cells (modC md0) 59)).alloc (.cells #[.bool false] 4)).cell? ⟨w.heap.size, 0, none⟩ = some (.int .i64 (n : Int)) := by rw [← hrc]; exact hb4.cell 0 rfl
  obtain ⟨x0, x1, x2, x3, x4⟩ := blk5' hb6
  have HB : Hid (Bx4 w ((((w.alloc (.cells (modC m) 59)).alloc (.cells #[.int .i64 1, .int .i64 r, .int .i64 level, .int .i64 later, .slice tA tn tc] 61)).alloc (.cells (modC md0) 59)).alloc (.cells #[.bool false] 4)) (modC m) #[.int .i64 1, .int .i64 r, .int .i64 level, .int .i64 later, .slice tA tn tc]) := ⟨hb4, hb6, hb8, hb9⟩
  have HBL := Lib.hid hbl
  have HZZ : Hid (((((w.alloc (.cells (modC m) 59)).alloc (.cells #[.int .i64 1, .int .i64 r, .int .i64 level, .int .i64 later, .slice tA tn tc] 61)).alloc (.cells (modC md0) 59)).alloc (.cells #[.bool false] 4)).heap.size = w.heap.size + 1 + 1 + 1 + 1) := hzz
  have H1 := Lib.hid (h.below hbl)
  have HMO : Hid (modOne m) := by
    obtain ⟨⟨gd, pv, P, fv, asks, vs, Xs, -, hM, -⟩, -⟩ := h
    exact hM.modOne
  have hn8 := h.cf.n
  have HT := Lib.hid ht
  have HKK := Lib.hid hk
  have HX := Lib.hid (hx.below hbl)
  have HBS := Lib.hid hbs
  have HBT := Lib.hid hbt
  have HXO := Lib.hid hxo
  clear h hrc hb4 hb6 hb8 hb9 hbl hzz ht hk hx hbs hbt hxo
  rcases (by omega : r < 0 ∨ (0 ≤ r ∧ (n : Int) ≤ r) ∨ (0 ≤ r ∧ r < (n : Int) ∧ level < -1) ∨ (0 ≤ r ∧ r < (n : Int) ∧ -1 ≤ level ∧ 7 < level)) with g | ⟨g, g'⟩ | ⟨g, g', g''⟩ | ⟨g, g', g'', g3⟩
  all_goals
    go_enter Try.func19, Try.ntmps19
    go_wp2_with (first | (refine wpList_boxM rfl _ rfl m rfl ?_; rintro w1 hw1 - - -; have hw1' := hw1.out; subst hw1'; clear hw1) | (refine wpList_allocM rfl rfl ?_; rintro w2 hw2 - - -; have hw2' := hw2.out; subst hw2'; clear hw2))
    generalize ((((w.alloc (.cells (modC m) 59)).alloc (.cells #[.int .i64 1, .int .i64 r, .int .i64 level, .int .i64 later, .slice tA tn tc] 61)).alloc (.cells (modC md0) 59)).alloc (.cells #[.bool false] 4)) = w1 at *
    have H1D : Hid (NM w1.drew col nb n delay room j lv F m k t) := H1.out.below (below_drewN (Below.refl _ w1) 1)
    have HBD : Hid (Bx4 w w1.drew (modC m) #[.int .i64 1, .int .i64 r, .int .i64 level, .int .i64 later, .slice tA tn tc]) := HB.out.below (below_drewN (Below.refl _ w1) 1)
    have HBLD : Hid (Below w.heap.size w w1.drew) := below_drewN HBL.out 1
    obtain ⟨gd, pv, P, fv, asks, vs, Xs, hN0, hM0, hpi, hj, hlv, hPl, hXl, hS, hAt⟩ := H.out.ex
    have hN := hN0.below HBLD.out
    have hM := hM0.below HBLD.out
    have HLT : Hid (∀ q, col q ≠ 0 → q < w.heap.size) := fun q hq => hN0.lt hq
    have HNS : Hid (Blk w1.drew nb (netC gd.b delay pv fv (m.used : Int) m.s) 37) := hN.str
    have HGD : Hid (GrpAt w1.drew gd.b gd.g gd.c gd.l gd.j gd.lv) := hN.grp
    have hgl : gd.l.length = n := hpi.len
    have htb := H1D.out.tb
    have hkb := H1D.out.kb
    have ht2 := HT.out
    have HAR := Lib.hid (ask_range gd.b gd.g gd.c gd.l gd.j gd.lv r level now w1.drew HGD.out (by unfold AskOk; rw [hgl]; omega))
    clear hN0 hM0 hN hM hpi hj hlv hPl hXl hS hAt hgl htb hkb ht2 hno HLT x0 x1 x2 x3 x4 hx0
    refine wp_region_heldT (S := (fun W' => Keep (fun _ => False) w1.drew W')) 9 (by kernel_rfl) (Keep.refl _ _) (fun hHeld => ?_)
    refine heldT_free (i := 0) (oi := { dst := some 32, op := Op.move (Operand.tmp 1), type := 25, pos := "law.go:104", after := #[], guard := none }) (v := ?_) rfl (by kernel_rfl) (by kernel_rfl) (by kernel_rfl) (by kernel_rfl) (fun _ _ _ h => h) (Or.inl ⟨by rfl, ?_⟩) hHeld ?_
    rotate_left 1
    · intro wS; go_simp <;> with_reducible rfl
    (try simp only [Act.put, List.setIfInBounds_toArray, List.set_cons_zero, List.set_cons_succ])
    refine heldT_free (i := 1) (oi := { dst := some 33, op := Op.nilCheck (Operand.tmp 32), type := 0, pos := "law.go:104", after := #[{ on := 0, ground := Ground.data }], guard := none }) (v := ?_) rfl (by kernel_rfl) (by kernel_rfl) (by kernel_rfl) (by kernel_rfl) (fun _ _ _ h => h) (Or.inl ⟨by rfl, ?_⟩) hHeld ?_
    rotate_left 1
    · intro wS; go_simp <;> with_reducible rfl
    (try simp only [Act.put, List.setIfInBounds_toArray, List.set_cons_zero, List.set_cons_succ])
    refine heldT_free (i := 2) (oi := { dst := some 34, op := Op.fieldAddr 37 (Operand.tmp 33) 0, type := 0, pos := "law.go:104", after := #[{ on := 1, ground := Ground.data }], guard := none }) (v := ?_) rfl (by kernel_rfl) (by kernel_rfl) (by kernel_rfl) (by kernel_rfl) (fun _ _ _ h => h) (Or.inl ⟨by rfl, ?_⟩) hHeld ?_
    rotate_left 1
    · intro wS; go_simp <;> with_reducible rfl
    (try simp only [Act.put, List.setIfInBounds_toArray, List.set_cons_zero, List.set_cons_succ])
    refine heldT_takeC [] (i := 3) (oi := { dst := some 35, op := Op.load 32 (Operand.tmp 34), type := 32, pos := "law.go:104", after := #[{ on := 2, ground := Ground.data }], guard := none }) (v := ?_) rfl (by kernel_rfl) (by kernel_rfl) (by kernel_rfl) (by kernel_rfl) (fun _ _ _ h => h) (Or.inl ⟨by rfl, ?_⟩) hHeld ?_
    rotate_left 1
    · intro wS hSw; have hq := HNS.out.keep hSw (fun h => h); have q : wS.cell? ⟨nb, 0, none⟩ = some (.pointer (some ⟨gd.b, 0, none⟩)) := hq.cell 0 rfl; clear hq hSw; go_simp <;> with_reducible rfl
    (try simp only [Act.put, List.setIfInBounds_toArray, List.set_cons_zero, List.set_cons_succ])
    refine heldT_free (i := 4) (oi := { dst := some 36, op := Op.fieldAddr 61 (Operand.tmp 6) 1, type := 0, pos := "law.go:104", after := #[], guard := none }) (v := ?_) rfl (by kernel_rfl) (by kernel_rfl) (by kernel_rfl) (by kernel_rfl) (fun _ _ _ h => h) (Or.inl ⟨by rfl, ?_⟩) hHeld ?_
    rotate_left 1
    · intro wS; go_simp <;> with_reducible rfl
    (try simp only [Act.put, List.setIfInBounds_toArray, List.set_cons_zero, List.set_cons_succ])
    refine heldT_takeC [] (i := 5) (oi := { dst := some 37, op := Op.load 3 (Operand.tmp 36), type := 3, pos := "law.go:104", after := #[{ on := 4, ground := Ground.data }], guard := none }) (v := ?_) rfl (by kernel_rfl) (by kernel_rfl) (by kernel_rfl) (by kernel_rfl) (fun _ _ _ h => h) (Or.inl ⟨by rfl, ?_⟩) hHeld ?_
    rotate_left 1
    · intro wS hSw; have hq := HBD.out.b6.keep hSw (fun h => h); have q : wS.cell? ⟨w.heap.size + 1, 1, none⟩ = some (.int .i64 r) := hq.cell 1 rfl; clear hq hSw; go_simp <;> with_reducible rfl
    (try simp only [Act.put, List.setIfInBounds_toArray, List.set_cons_zero, List.set_cons_succ])
    refine heldT_free (i := 6) (oi := { dst := some 38, op := Op.fieldAddr 61 (Operand.tmp 6) 2, type := 0, pos := "law.go:104", after := #[], guard := none }) (v := ?_) rfl (by kernel_rfl) (by kernel_rfl) (by kernel_rfl) (by kernel_rfl) (fun _ _ _ h => h) (Or.inl ⟨by rfl, ?_⟩) hHeld ?_
    rotate_left 1
    · intro wS; go_simp <;> with_reducible rfl
    (try simp only [Act.put, List.setIfInBounds_toArray, List.set_cons_zero, List.set_cons_succ])
    refine heldT_takeC [] (i := 7) (oi := { dst := some 39, op := Op.load 3 (Operand.tmp 38), type := 3, pos := "law.go:104", after := #[{ on := 6, ground := Ground.data }], guard := none }) (v := ?_) rfl (by kernel_rfl) (by kernel_rfl) (by kernel_rfl) (by kernel_rfl) (fun _ _ _ h => h) (Or.inl ⟨by rfl, ?_⟩) hHeld ?_
    rotate_left 1
    · intro wS hSw; have hq := HBD.out.b6.keep hSw (fun h => h); have q : wS.cell? ⟨w.heap.size + 1, 2, none⟩ = some (.int .i64 level) := hq.cell 2 rfl; clear hq hSw; go_simp <;> with_reducible rfl
    (try simp only [Act.put, List.setIfInBounds_toArray, List.set_cons_zero, List.set_cons_succ])
    refine heldT_free (i := 8) (oi := { dst := some 40, op := Op.move (Operand.tmp 3), type := 3, pos := "law.go:104", after := #[], guard := none }) (v := ?_) rfl (by kernel_rfl) (by kernel_rfl) (by kernel_rfl) (by kernel_rfl) (fun _ _ _ h => h) (Or.inl ⟨by rfl, ?_⟩) hHeld ?_
    rotate_left 1
    · intro wS; go_simp <;> with_reducible rfl
    (try simp only [Act.put, List.setIfInBounds_toArray, List.set_cons_zero, List.set_cons_succ])
    refine heldT_tail (by kernel_rfl) rfl rfl (by kernel_rfl) ?_
    (try simp only [List.drop_succ_cons, List.drop_zero])
    go_wp2_with fail
    refine HAR.out.mono ?_
    rintro e w3 ⟨rfl, rfl⟩
    go_wp2_with fail
    refine NoPanic.normal ?_
    have x0 := HBD.out.b6.cell 0 rfl
    have x2 : w1.drew.cell? ⟨w.heap.size + 1, 2, none⟩ = some (.int .i64 level) := HBD.out.b6.cell 2 rfl
    go_wp2_with (first | (refine wpList_loadM rfl _ rfl _ rfl m ?_ ?_; exact HBD.out.b4) | (refine wpList_storeM rfl _ _ rfl _ rfl m md0 HMO.out rfl ?_ ?_; exact HBD.out.b8; rintro wS hbS hkS; have HB9 := Lib.hid (HBD.out.b9.keep hkS.out (by omega)); have y9 := HB9.out.cell 0 rfl; have g9 := HB9.out.frozen 0))
    obtain ⟨e0, e1, e2, e3, e4, e5, e6, e7, e8, e9, e10, e11, e12, e13, e14⟩ := mod15 hbS.out
    have HSC : Hid (Keep (fun q => q = w.heap.size + 1 + 1 + 1) wS (wS.setCell ⟨w.heap.size + 1 + 1 + 1, 0, none⟩ (.bool true))) := (Keep.refl (fun q => q = w.heap.size + 1 + 1 + 1) wS).setCell (p := ⟨w.heap.size + 1 + 1 + 1, 0, none⟩) (.inl rfl) _
    exact bodyPost_ret (v := .tuple #[.agg (modC m), .bool true]) (by simp [results, Try.results19, go_sem, modC, e0, e1, e2, e3, e4, e5, e6, e7, e8, e9, e10, e11, e12, e13, e14, y9]) rfl ⟨m, rfl, SR.stay H.out HKK.out HT.out (bkeep (bkeep HBLD.out hkS.out (Nat.le_refl _) (fun q e => by omega)) HSC.out (Nat.le_refl _) (fun q e => by omega))⟩
end Go.Proofs.Ytlodiibmofeikaa
