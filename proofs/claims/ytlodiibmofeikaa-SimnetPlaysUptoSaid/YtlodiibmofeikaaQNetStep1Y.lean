/- simnet: the law's step of kind 1, taken in. -/
import Derived.Test.YtlodiibmofeikaaQNetStepA
namespace Go.Proofs.Ytlodiibmofeikaa
open Go.RowKit Go.Shelf
set_option linter.unusedVariables false
set_option linter.unusedSimpArgs false
set_option maxRecDepth 100000 in
set_option maxHeartbeats 4000000 in
theorem step_1y (w : World) {col : Nat → Nat} {nb n : Nat} {delay room j lv : Int} {F : List FD} {m : MD} {k : Nat} {t : Int} (h : NM w col nb n delay room j lv F m k t) (hk : k < 1000) (now : Int) (ht : t ≤ now ∧ now ≤ t + 100) (r level later : Int) (tA : Option Addr) (tn tc : Nat) (bs : List Int) (hx : Reads w 1 (.slice tA tn tc) tn (u8s bs)) (hbs : bs.length = tn) (hbt : BtsI bs) (hxo : ∀ g, (Value.slice tA tn tc).ownBlock = some g → 0 < tn → col g = 0 ∧ g < w.heap.size) (g : 0 ≤ r) (g' : r < (n : Int)) (g2 : -1 ≤ level) (g3 : level ≤ 7) :
    Calls Try.prog 19 #[.agg (modC m), .pointer (some ⟨nb, 0, none⟩), .agg #[.int .i64 1, .int .i64 r, .int .i64 level, .int .i64 later, .slice tA tn tc], .int .i64 now] w fun e w' => ∃ m', e = .returned (.tuple #[.agg (modC m'), .bool true]) ∧ SR w w' col nb n delay room j lv F m' (k + 1) now := by
  have H := Lib.hid h
  have hrc := h.cfg.1
  obtain ⟨hb4, hb6, hb8, hb9, hbl, hzz⟩ := boxes4n w (modC m) #[.int .i64 1, .int .i64 r, .int .i64 level, .int .i64 later, .slice tA tn tc] (modC md0) #[.bool false] 59 61 59 4
  have hx0 : ((((w.alloc (.cells (modC m) 59)).alloc (.cells #[.int .i64 1, .int .i64 r, .int .i64 level, .int .i64 later, .slice tA tn tc] 61)).alloc (.cells (modC md0) 59)).alloc (.cells #[.bool false] 4)).cell? ⟨w.heap.size, 0, none⟩ = some (.int .i64 (n : Int)) := by rw [← hrc]; exact hb4.cell 0 rfl
  obtain ⟨x0, x1, x2, x3, x4⟩ := blk5' hb6
  have HB : Hid (Bx4 w ((((w.alloc (.cells (modC m) 59)).alloc (.cells #[.int .i64 1, .int .i64 r, .int .i64 level, .int .i64 later, .slice tA tn tc] 61)).alloc (.cells (modC md0) 59)).alloc (.cells #[.bool false] 4)) (modC m) #[.int .i64 1, .int .i64 r, .int .i64 level, .int .i64 later, .slice tA tn tc]) := ⟨hb4, hb6, hb8, hb9⟩
  have HBL := Lib.hid hbl
  have HZZ : Hid (((((w.alloc (.cells (modC m) 59)).alloc (.cells #[.int .i64 1, .int .i64 r, .int .i64 level, .int .i64 later, .slice tA tn tc] 61)).alloc (.cells (modC md0) 59)).alloc (.cells #[.bool false] 4)).heap.size = w.heap.size + 1 + 1 + 1 + 1) := hzz
  have H1 := Lib.hid (h.below hbl)
  have HMO : Hid (modOne m) := by
    obtain ⟨⟨gd, pv, P, fv, asks, vs, Xs, -, hM, -⟩, -⟩ := h
    exact hM.modOne
  have hn8 := h.cf.n
  have HT := Lib.hid ht
  have HKK := Lib.hid hk
  have HX := Lib.hid (hx.below hbl)
  have HBS := Lib.hid hbs
  have HBT := Lib.hid hbt
  have HXO := Lib.hid hxo
  clear h hrc hb4 hb6 hb8 hb9 hbl hzz ht hk hx hbs hbt hxo
  go_enter Try.func19, Try.ntmps19
  go_wp2_with (first | (refine wpList_boxM rfl _ rfl m rfl ?_; rintro w1 hw1 - - -; have hw1' := hw1.out; subst hw1'; clear hw1) | (refine wpList_allocM rfl rfl ?_; rintro w2 hw2 - - -; have hw2' := hw2.out; subst hw2'; clear hw2))
  generalize ((((w.alloc (.cells (modC m) 59)).alloc (.cells #[.int .i64 1, .int .i64 r, .int .i64 level, .int .i64 later, .slice tA tn tc] 61)).alloc (.cells (modC md0) 59)).alloc (.cells #[.bool false] 4)) = w1 at *
  have H1D : Hid (NM w1.drew col nb n delay room j lv F m k t) := H1.out.below (below_drewN (Below.refl _ w1) 1)
  have HBD : Hid (Bx4 w w1.drew (modC m) #[.int .i64 1, .int .i64 r, .int .i64 level, .int .i64 later, .slice tA tn tc]) := HB.out.below (below_drewN (Below.refl _ w1) 1)
  have HBLD : Hid (Below w.heap.size w w1.drew) := below_drewN HBL.out 1
  obtain ⟨gd, pv, P, fv, asks, vs, Xs, hN0, hM0, hpi, hj, hlv, hPl, hXl, hS, hAt⟩ := H.out.ex
  have hN := hN0.below HBLD.out
  have hM := hM0.below HBLD.out
  have HLT : Hid (∀ q, col q ≠ 0 → q < w.heap.size) := fun q hq => hN0.lt hq
  have HNS : Hid (Blk w1.drew nb (netC gd.b delay pv fv (m.used : Int) m.s) 37) := hN.str
  have HGD : Hid (GrpAt w1.drew gd.b gd.g gd.c gd.l gd.j gd.lv) := hN.grp
  have hgl : gd.l.length = n := hpi.len
  have htb := H1D.out.tb
  have hkb := H1D.out.kb
  have ht2 := HT.out
  obtain ⟨rn, hrn⟩ := Int.eq_ofNat_of_zero_le g
  have HRN : Hid (r = (rn : Int)) := hrn
  have HRL : Hid (rn < n) := by show _ < _; omega
  have hasked := rfold_asked j lv rn asks t htb.1 hAt
  have hcf := H.out.cf
  have har := ask_yes gd.b gd.g gd.c gd.l gd.j gd.lv level now rn (rfold j lv rn asks) w1.drew HGD.out (hpi.at_ rn HRL.out) (by unfold AskOk; rw [hgl]; omega) (by omega) (by rw [hj, hlv]; exact ⟨hcf.j.1, hcf.j.2, hcf.lv.1, hcf.lv.2⟩)
  rw [← hrn, hj, hlv] at har
  have HAR := Lib.hid har
  have HAL0 := Lib.hid (And.intro hN0 (And.intro hM0 (And.intro hpi (And.intro hj (And.intro hlv (And.intro hPl (And.intro hXl (And.intro hS hAt))))))))
  have HALL : Hid (NetAt w col nb gd delay room pv P fv F m.used m.s ∧ MdAt w (fun q => col q = 0) m asks vs Xs F ∧ PInv n j lv gd.l asks k ∧ gd.j = j ∧ gd.lv = lv ∧ P.length = n + 1 ∧ Xs.length = n + 1 ∧ Same room P Xs ∧ (∀ a ∈ asks, a.now ≤ t)) := HAL0.out
  have HN1 := Lib.hid hN
  have HM1 := Lib.hid hM
  have HJ := Lib.hid hj
  have HLVJ := Lib.hid hlv
  have HZ1 : Hid (w1.heap.size = w.heap.size + 1 + 1 + 1 + 1) := HZZ.out
  obtain ⟨aA, ac, hav⟩ := ownsRow_slice hM.asks
  obtain ⟨i0, hi0, hz0, hz1, hz2⟩ := info_parts info_ask
  have HI0 := Lib.hid hi0
  have HZ0 := Lib.hid hz0
  have HZ1' := Lib.hid hz1
  have HZ2 := Lib.hid hz2
  have HAV := Lib.hid hav
  have hy1 : ∀ u ∈ asks.flatMap askCells, u.oneCell' = true := by
    intro u hu
    obtain ⟨o, -, hu⟩ := List.mem_flatMap.1 hu
    simp [askCells] at hu
    rcases hu with rfl | rfl | rfl <;> rfl
  have HY1 := Lib.hid hy1
  have HAL : Hid (asks.length ≤ 1000) := by have := hpi.xlen; show _ ≤ _; omega
  clear hN0 hM0 hN hM hpi hj hlv hPl hXl hS hAt hgl htb hkb ht2 x0 x1 x2 x3 x4 hx0 hrn hasked hcf har HAL0 hav hi0 hz0 hz1 hz2 hy1
  refine wp_region_heldT (S := (fun W' => Keep (fun _ => False) w1.drew W')) 9 (by kernel_rfl) (Keep.refl _ _) (fun hHeld => ?_)
  refine heldT_free (i := 0) (oi := { dst := some 32, op := Op.move (Operand.tmp 1), type := 25, pos := "law.go:104", after := #[], guard := none }) (v := ?_) rfl (by kernel_rfl) (by kernel_rfl) (by kernel_rfl) (by kernel_rfl) (fun _ _ _ h => h) (Or.inl ⟨by rfl, ?_⟩) hHeld ?_
  rotate_left 1
  · intro wS; go_simp <;> with_reducible rfl
  (try simp only [Act.put, List.setIfInBounds_toArray, List.set_cons_zero, List.set_cons_succ])
  refine heldT_free (i := 1) (oi := { dst := some 33, op := Op.nilCheck (Operand.tmp 32), type := 0, pos := "law.go:104", after := #[{ on := 0, ground := Ground.data }], guard := none }) (v := ?_) rfl (by kernel_rfl) (by kernel_rfl) (by kernel_rfl) (by kernel_rfl) (fun _ _ _ h => h) (Or.inl ⟨by rfl, ?_⟩) hHeld ?_
  rotate_left 1
  · intro wS; go_simp <;> with_reducible rfl
  (try simp only [Act.put, List.setIfInBounds_toArray, List.set_cons_zero, List.set_cons_succ])
  refine heldT_free (i := 2) (oi := { dst := some 34, op := Op.fieldAddr 37 (Operand.tmp 33) 0, type := 0, pos := "law.go:104", after := #[{ on := 1, ground := Ground.data }], guard := none }) (v := ?_) rfl (by kernel_rfl) (by kernel_rfl) (by kernel_rfl) (by kernel_rfl) (fun _ _ _ h => h) (Or.inl ⟨by rfl, ?_⟩) hHeld ?_
  rotate_left 1
  · intro wS; go_simp <;> with_reducible rfl
  (try simp only [Act.put, List.setIfInBounds_toArray, List.set_cons_zero, List.set_cons_succ])
  refine heldT_takeC [] (i := 3) (oi := { dst := some 35, op := Op.load 32 (Operand.tmp 34), type := 32, pos := "law.go:104", after := #[{ on := 2, ground := Ground.data }], guard := none }) (v := ?_) rfl (by kernel_rfl) (by kernel_rfl) (by kernel_rfl) (by kernel_rfl) (fun _ _ _ h => h) (Or.inl ⟨by rfl, ?_⟩) hHeld ?_
  rotate_left 1
  · intro wS hSw; have hq := HNS.out.keep hSw (fun h => h); have q : wS.cell? ⟨nb, 0, none⟩ = some (.pointer (some ⟨gd.b, 0, none⟩)) := hq.cell 0 rfl; clear hq hSw; go_simp <;> with_reducible rfl
  (try simp only [Act.put, List.setIfInBounds_toArray, List.set_cons_zero, List.set_cons_succ])
  refine heldT_free (i := 4) (oi := { dst := some 36, op := Op.fieldAddr 61 (Operand.tmp 6) 1, type := 0, pos := "law.go:104", after := #[], guard := none }) (v := ?_) rfl (by kernel_rfl) (by kernel_rfl) (by kernel_rfl) (by kernel_rfl) (fun _ _ _ h => h) (Or.inl ⟨by rfl, ?_⟩) hHeld ?_
  rotate_left 1
  · intro wS; go_simp <;> with_reducible rfl
  (try simp only [Act.put, List.setIfInBounds_toArray, List.set_cons_zero, List.set_cons_succ])
  refine heldT_takeC [] (i := 5) (oi := { dst := some 37, op := Op.load 3 (Operand.tmp 36), type := 3, pos := "law.go:104", after := #[{ on := 4, ground := Ground.data }], guard := none }) (v := ?_) rfl (by kernel_rfl) (by kernel_rfl) (by kernel_rfl) (by kernel_rfl) (fun _ _ _ h => h) (Or.inl ⟨by rfl, ?_⟩) hHeld ?_
  rotate_left 1
  · intro wS hSw; have hq := HBD.out.b6.keep hSw (fun h => h); have q : wS.cell? ⟨w.heap.size + 1, 1, none⟩ = some (.int .i64 r) := hq.cell 1 rfl; clear hq hSw; go_simp <;> with_reducible rfl
  (try simp only [Act.put, List.setIfInBounds_toArray, List.set_cons_zero, List.set_cons_succ])
  refine heldT_free (i := 6) (oi := { dst := some 38, op := Op.fieldAddr 61 (Operand.tmp 6) 2, type := 0, pos := "law.go:104", after := #[], guard := none }) (v := ?_) rfl (by kernel_rfl) (by kernel_rfl) (by kernel_rfl) (by kernel_rfl) (fun _ _ _ h => h) (Or.inl ⟨by rfl, ?_⟩) hHeld ?_
  rotate_left 1
  · intro wS; go_simp <;> with_reducible rfl
  (try simp only [Act.put, List.setIfInBounds_toArray, List.set_cons_zero, List.set_cons_succ])
  refine heldT_takeC [] (i := 7) (oi := { dst := some 39, op := Op.load 3 (Operand.tmp 38), type := 3, pos := "law.go:104", after := #[{ on := 6, ground := Ground.data }], guard := none }) (v := ?_) rfl (by kernel_rfl) (by kernel_rfl) (by kernel_rfl) (by kernel_rfl) (fun _ _ _ h => h) (Or.inl ⟨by rfl, ?_⟩) hHeld ?_
  rotate_left 1
  · intro wS hSw; have hq := HBD.out.b6.keep hSw (fun h => h); have q : wS.cell? ⟨w.heap.size + 1, 2, none⟩ = some (.int .i64 level) := hq.cell 2 rfl; clear hq hSw; go_simp <;> with_reducible rfl
  (try simp only [Act.put, List.setIfInBounds_toArray, List.set_cons_zero, List.set_cons_succ])
  refine heldT_free (i := 8) (oi := { dst := some 40, op := Op.move (Operand.tmp 3), type := 3, pos := "law.go:104", after := #[], guard := none }) (v := ?_) rfl (by kernel_rfl) (by kernel_rfl) (by kernel_rfl) (by kernel_rfl) (fun _ _ _ h => h) (Or.inl ⟨by rfl, ?_⟩) hHeld ?_
  rotate_left 1
  · intro wS; go_simp <;> with_reducible rfl
  (try simp only [Act.put, List.setIfInBounds_toArray, List.set_cons_zero, List.set_cons_succ])
  refine heldT_tail (by kernel_rfl) rfl rfl (by kernel_rfl) ?_
  (try simp only [List.drop_succ_cons, List.drop_zero])
  go_wp2_with fail
  refine HAR.out.mono ?_
  rintro e w3 ⟨rfl, hg3, hk3⟩
  have HN3 : Hid (NetAt w3 col nb ⟨gd.b, gd.g, gd.c, gd.l.set rn (stp j lv (rfold j lv rn asks) level now), gd.j, gd.lv⟩ delay room pv P fv F m.used m.s) := HN1.out.ask (by rw [HJ.out, HLVJ.out, ← HRN.out]; exact hg3) hk3
  have HK3 := Lib.hid hk3
  have hgc : gd.g < w.heap.size := HLT.out _ (by rw [HN1.out.c3]; decide)
  have hc3 := HN1.out.c3
  have HB3 : Hid (Bx4 w w3.drew (modC m) #[.int .i64 1, .int .i64 r, .int .i64 level, .int .i64 later, .slice tA tn tc]) := (HBD.out.keep hk3 (fun q hq _ e => by omega)).below (below_drewN (Below.refl _ w3) 1)
  have HRY : Hid (Reads w3.drew 3 (.slice aA asks.length ac) asks.length (asks.flatMap askCells)) := by
    have h := (HM1.out.keep hk3 (fun q a e => by have a : col q = 0 := a; rw [e] at a; omega)).asks
    rw [HAV.out] at h
    exact (Reads.of_owns h).drewN 1
  clear hg3 hk3 hgc hc3
  go_wp2_with fail
  refine NoPanic.normal ?_
  have x0 := HB3.out.b6.cell 0 rfl
  have x2 : w3.cell? ⟨w.heap.size + 1, 2, none⟩ = some (.int .i64 level) := HB3.out.b6.cell 2 rfl
  go_wp2_with fail
  clear x0 x2
  refine wp_region_heldT (S := (fun W' => Keep (fun _ => False) w3.drew W')) 12 (by kernel_rfl) (Keep.refl _ _) (fun hHeld => ?_)
  refine heldT_free (i := 1) (oi := { dst := some 58, op := Op.fieldAddr 59 (Operand.tmp 4) 1, type := 0, pos := "law.go:108", after := #[], guard := none }) (v := ?_) rfl (by kernel_rfl) (by kernel_rfl) (by kernel_rfl) (by kernel_rfl) (fun _ _ _ h => h) (Or.inl ⟨by rfl, ?_⟩) hHeld ?_
  rotate_left 1
  · intro wS; go_simp <;> with_reducible rfl
  (try simp only [Act.put, List.setIfInBounds_toArray, List.set_cons_zero, List.set_cons_succ])
  refine heldT_takeC [11, 3] (i := 2) (oi := { dst := some 59, op := Op.load 56 (Operand.tmp 58), type := 56, pos := "law.go:108", after := #[{ on := 1, ground := Ground.data }], guard := none }) (v := ?_) rfl (by kernel_rfl) (by kernel_rfl) (by kernel_rfl) (by kernel_rfl) (fun _ _ _ h => h) (Or.inl ⟨by rfl, ?_⟩) hHeld ?_
  rotate_left 1
  · intro wS hSw; have hq := HB3.out.b4.keep hSw (fun h => h); have q : wS.cell? ⟨w.heap.size, 5, none⟩ = some (.slice aA asks.length ac) := (by rw [← HAV.out]; exact hq.cell 5 rfl); clear hq hSw; go_simp <;> with_reducible rfl
  (try simp only [Act.put, List.setIfInBounds_toArray, List.set_cons_zero, List.set_cons_succ])
  refine heldT_free (i := 4) (oi := { dst := some 61, op := Op.fieldAddr 61 (Operand.tmp 6) 1, type := 0, pos := "law.go:108", after := #[], guard := none }) (v := ?_) rfl (by kernel_rfl) (by kernel_rfl) (by kernel_rfl) (by kernel_rfl) (fun _ _ _ h => h) (Or.inl ⟨by rfl, ?_⟩) hHeld ?_
  rotate_left 1
  · intro wS; go_simp <;> with_reducible rfl
  (try simp only [Act.put, List.setIfInBounds_toArray, List.set_cons_zero, List.set_cons_succ])
  refine heldT_takeC [11, 10, 9] (i := 5) (oi := { dst := some 62, op := Op.load 3 (Operand.tmp 61), type := 3, pos := "law.go:108", after := #[{ on := 4, ground := Ground.data }], guard := none }) (v := ?_) rfl (by kernel_rfl) (by kernel_rfl) (by kernel_rfl) (by kernel_rfl) (fun _ _ _ h => h) (Or.inl ⟨by rfl, ?_⟩) hHeld ?_
  rotate_left 1
  · intro wS hSw; have hq := HB3.out.b6.keep hSw (fun h => h); have q : wS.cell? ⟨w.heap.size + 1, 1, none⟩ = some (.int .i64 r) := hq.cell 1 rfl; clear hq hSw; go_simp <;> with_reducible rfl
  (try simp only [Act.put, List.setIfInBounds_toArray, List.set_cons_zero, List.set_cons_succ])
  refine heldT_free (i := 6) (oi := { dst := some 63, op := Op.fieldAddr 61 (Operand.tmp 6) 2, type := 0, pos := "law.go:108", after := #[], guard := none }) (v := ?_) rfl (by kernel_rfl) (by kernel_rfl) (by kernel_rfl) (by kernel_rfl) (fun _ _ _ h => h) (Or.inl ⟨by rfl, ?_⟩) hHeld ?_
  rotate_left 1
  · intro wS; go_simp <;> with_reducible rfl
  (try simp only [Act.put, List.setIfInBounds_toArray, List.set_cons_zero, List.set_cons_succ])
  refine heldT_takeC [11, 10, 9] (i := 7) (oi := { dst := some 64, op := Op.load 3 (Operand.tmp 63), type := 3, pos := "law.go:108", after := #[{ on := 6, ground := Ground.data }], guard := none }) (v := ?_) rfl (by kernel_rfl) (by kernel_rfl) (by kernel_rfl) (by kernel_rfl) (fun _ _ _ h => h) (Or.inl ⟨by rfl, ?_⟩) hHeld ?_
  rotate_left 1
  · intro wS hSw; have hq := HB3.out.b6.keep hSw (fun h => h); have q : wS.cell? ⟨w.heap.size + 1, 2, none⟩ = some (.int .i64 level) := hq.cell 2 rfl; clear hq hSw; go_simp <;> with_reducible rfl
  (try simp only [Act.put, List.setIfInBounds_toArray, List.set_cons_zero, List.set_cons_succ])
  refine heldT_free (i := 8) (oi := { dst := some 65, op := Op.move (Operand.tmp 3), type := 3, pos := "law.go:108", after := #[], guard := none }) (v := ?_) rfl (by kernel_rfl) (by kernel_rfl) (by kernel_rfl) (by kernel_rfl) (fun _ _ _ h => h) (Or.inl ⟨by rfl, ?_⟩) hHeld ?_
  rotate_left 1
  · intro wS; go_simp <;> with_reducible rfl
  (try simp only [Act.put, List.setIfInBounds_toArray, List.set_cons_zero, List.set_cons_succ])
  refine heldT_free (i := 9) (oi := { dst := some 66, op := Op.build 87 #[(0, Operand.tmp 62), (1, Operand.tmp 64), (2, Operand.tmp 65)], type := 87, pos := "law.go:108", after := #[{ on := 5, ground := Ground.data }, { on := 7, ground := Ground.data }, { on := 8, ground := Ground.data }], guard := none }) (v := ?_) rfl (by kernel_rfl) (by kernel_rfl) (by kernel_rfl) (by kernel_rfl) (fun _ _ _ h => h) (Or.inl ⟨by rfl, ?_⟩) hHeld ?_
  rotate_left 1
  · intro wS; go_simp <;> with_reducible rfl
  (try simp only [Act.put, List.setIfInBounds_toArray, List.set_cons_zero, List.set_cons_succ])
  refine heldT_pair (i := 0) (j := 10) (by kernel_rfl) (by kernel_rfl) rfl rfl (fun K hK => ?_) (fun K hK => ?_)
  · go_simp
    go_wp2_with fail
    refine hK.out _ _ (((Keep.refl (fun _ => False) w3.drew).alloc (.cells #[] 87))) (fun hHeld => ?_)
    clear hK K
    (try simp only [Act.put, List.setIfInBounds_toArray, List.set_cons_zero, List.set_cons_succ])
    refine heldT_pair (i := 3) (j := 10) (by kernel_rfl) (by kernel_rfl) rfl rfl (fun K hK => ?_) (fun K hK => ?_)
    · have HEB : Hid (w3.drew.heap.size ≤ w3.drew.heap.size) := by show _ ≤ _; first | exact Nat.le_refl _ | (simp; done)
      refine step_appR rfl _ _ 56 rfl w3.drew.heap.size 87 i0 (.agg #[.int .i64 0, .int .i64 0, .int .i64 0]) 3 24 Try.underlying56 HI0.out HZ0.out HZ1'.out HZ2.out rfl _ 0 [] rfl (madeAt _ (by first | rfl | (simp; done)) (by first | exact Nat.le_refl _ | (simp; done))) _ asks.length _ rfl (HRY.out.keep ((Keep.refl (fun _ => False) w3.drew).alloc (.cells #[] 87)) (fun _ _ _ h => h)) HY1.out (by unfold maxLen; have := HAL.out; omega) (by have := HAL.out; omega) (by first | (simp; done) | (simp; omega)) ?_
      rintro A5 c5 w5 hown5 hk5 hg5 -
      rw [Nat.zero_add, List.nil_append] at hown5
      rw [Nat.zero_add]
      have HK5 : Hid (Keep (fun k => k = w3.drew.heap.size) (w3.drew.alloc (.cells #[] 87)) w5) := hk5.mono (fun q _ e => by have e2 := Option.some.inj e; subst e2; first | rfl | (simp; done))
      have HO5 := Lib.hid hown5
      refine hK.out _ _ ((((Keep.refl (fun _ => False) w3.drew).alloc (.cells #[] 87))).trans HK5.out (fun q hq h => by have := HEB.out; omega)) (fun hHeld => ?_)
      clear hK K hown5 hk5 hg5
      (try simp only [Act.put, List.setIfInBounds_toArray, List.set_cons_zero, List.set_cons_succ])
      refine heldT_one (j := 10) (by kernel_rfl) (by kernel_rfl) rfl (fun K hK => ?_)
      go_simp
      go_wp2_with fail
      refine hK.out _ _ ((((((Keep.refl (fun _ => False) w3.drew).alloc (.cells #[] 87))).trans HK5.out (fun q hq h => by have := HEB.out; omega)).alloc (.cells #[.int .i64 r, .int .i64 level, .int .i64 now] 87))) (fun hHeld => ?_)
      clear hK K
      (try simp only [Act.put, List.setIfInBounds_toArray, List.set_cons_zero, List.set_cons_succ])
      have HO6 : Hid ((w5.alloc (.cells #[.int .i64 r, .int .i64 level, .int .i64 now] 87)).ownsRow w3.drew.heap.size 87 3 (.slice A5 asks.length c5) asks.length (asks.flatMap askCells)) := HO5.out.alloc _
      have HCB : Hid (∀ nb', nb' = w5.heap.size → (w5.alloc (.cells #[.int .i64 r, .int .i64 level, .int .i64 now] 87)).heap[nb']? = some (.cells #[.int .i64 r, .int .i64 level, .int .i64 now] 87)) := fun nb' e => newAt _ _ e
      have HKX : Hid (Keep (fun _ => False) w3.drew (w5.alloc (.cells #[.int .i64 r, .int .i64 level, .int .i64 now] 87))) := (((((Keep.refl (fun _ => False) w3.drew).alloc (.cells #[] 87))).trans HK5.out (fun q hq h => by have := HEB.out; omega)).alloc (.cells #[.int .i64 r, .int .i64 level, .int .i64 now] 87))
      clear HK5
      refine heldT_one (j := 11) (by kernel_rfl) (by kernel_rfl) rfl (fun K hK => ?_)
      refine step_app1 rfl _ _ 56 rfl w3.drew.heap.size 87 i0 (.agg #[.int .i64 0, .int .i64 0, .int .i64 0]) 3 24 Try.underlying56 HI0.out HZ0.out HZ1'.out HZ2.out rfl (.slice A5 asks.length c5) asks.length (asks.flatMap askCells) rfl HO6.out _ #[.int .i64 r, .int .i64 level, .int .i64 now] (0, 0) 1 rfl (HCB.out _ (by simp)) rfl (by intro u hu; simp at hu; rcases hu with rfl | rfl | rfl <;> rfl) (by have := HAL.out; omega) (by omega) HKX.out.size ?_
      rintro A8 c8 w8 hown8 hk8 -
      have HK8 : Hid (Keep (fun _ => False) w3.drew w8) := HKX.out.trans hk8 (fun q hq e => by have := (HO6.out.lt q e).1; omega)
      have HO8 := Lib.hid hown8
      refine hK.out _ _ HK8.out (fun hHeld => ?_)
      clear hK K hown8 hk8 HO6 HCB HKX HO5
      (try simp only [Act.put, List.setIfInBounds_toArray, List.set_cons_zero, List.set_cons_succ])
      refine heldT_tail (by kernel_rfl) rfl rfl (by kernel_rfl) ?_
      (try simp only [List.drop_succ_cons, List.drop_zero])
      have HB8 : Hid (Bx4 w w8 (modC m) #[.int .i64 1, .int .i64 r, .int .i64 level, .int .i64 later, .slice tA tn tc]) := HB3.out.keep HK8.out (fun _ _ _ h => h)
      have y5 : w8.cell? ⟨w.heap.size, 5, none⟩ = some m.av := HB8.out.b4.cell 5 rfl
      have f5 : w8.frozen? ⟨w.heap.size, 5, none⟩ = false := HB8.out.b4.frozen 5
      go_wp2_with fail
      refine NoPanic.normal ?_
      obtain ⟨m', hm'⟩ : ∃ m' : MD, m' = { m with av := .slice A8 (asks.length + 1) c8 } := ⟨_, rfl⟩
      have hk5 : Keep (fun q => q = w.heap.size) w8 (w8.setCell ⟨w.heap.size, 5, none⟩ (.slice A8 (asks.length + 1) c8)) := (Keep.refl (fun q => q = w.heap.size) w8).setCell (p := ⟨w.heap.size, 5, none⟩) (.inl rfl) _
      have HBE : Hid (Bx4 w (w8.setCell ⟨w.heap.size, 5, none⟩ (.slice A8 (asks.length + 1) c8)) (modC m') #[.int .i64 1, .int .i64 r, .int .i64 level, .int .i64 later, .slice tA tn tc]) := ⟨by rw [hm']; exact HB8.out.b4.set' rfl, HB8.out.b6.keep hk5 (by omega), HB8.out.b8.keep hk5 (by omega), HB8.out.b9.keep hk5 (by omega)⟩
      have HM5 : Hid (m' = { m with av := .slice A8 (asks.length + 1) c8 }) := Lib.hid hm'
      have HMO5 : Hid (modOne m') := by rw [hm']; exact ⟨rfl, HMO.out.2.1, HMO.out.2.2⟩
      have HK85 := Lib.hid hk5
      clear hm' hk5 y5 f5
      generalize w8.setCell ⟨w.heap.size, 5, none⟩ (.slice A8 (asks.length + 1) c8) = wE at *
      go_wp2_with (first | (refine wpList_loadM rfl _ rfl _ rfl m' ?_ ?_; exact HBE.out.b4) | (refine wpList_storeM rfl _ _ rfl _ rfl m' md0 HMO5.out rfl ?_ ?_; exact HBE.out.b8; rintro wS hbS hkS; have HB9 := Lib.hid (HBE.out.b9.keep hkS.out (by omega)); have y9 := HB9.out.cell 0 rfl; have g9 := HB9.out.frozen 0))
      obtain ⟨e0, e1, e2, e3, e4, e5, e6, e7, e8, e9, e10, e11, e12, e13, e14⟩ := mod15 hbS.out
      have HSC : Hid (Keep (fun q => q = w.heap.size + 1 + 1 + 1) wS (wS.setCell ⟨w.heap.size + 1 + 1 + 1, 0, none⟩ (.bool true))) := (Keep.refl (fun q => q = w.heap.size + 1 + 1 + 1) wS).setCell (p := ⟨w.heap.size + 1 + 1 + 1, 0, none⟩) (.inl rfl) _
      refine bodyPost_ret (v := .tuple #[.agg (modC m'), .bool true]) (by simp [results, Try.results19, go_sem, modC, e0, e1, e2, e3, e4, e5, e6, e7, e8, e9, e10, e11, e12, e13, e14, y9]) rfl ⟨m', rfl, ?_⟩
      have hs3 : w1.drew.heap.size ≤ w3.heap.size := HK3.out.size
      have hs1 := HZ1.out
      have hkE : Keep (fun q => q = w.heap.size ∨ q = w.heap.size + 1 + 1 ∨ q = w.heap.size + 1 + 1 + 1) w8 (wS.setCell ⟨w.heap.size + 1 + 1 + 1, 0, none⟩ (.bool true)) := ((HK85.out.mono (fun q _ e => .inl e)).trans hkS.out (fun q _ e => .inr (.inl e))).trans HSC.out (fun q _ e => .inr (.inr e))
      have hkF : Keep (fun q => w.heap.size ≤ q) w3 (wS.setCell ⟨w.heap.size + 1 + 1 + 1, 0, none⟩ (.bool true)) := ((Keep.refl (fun q => w.heap.size ≤ q) w3).drew.trans HK8.out (fun q _ h => h.elim)).trans hkE (fun q _ e => by omega)
      rw [HM5.out]
      exact ask_end H.out HALL.out HKK.out HT.out HBLD.out HN3.out HK3.out hkF (ownsRow_keep HO8.out hkE (fun g' hg' e => by have h9 := (HO8.out.lt g' hg').1; have h8 : w3.heap.size ≤ g' := h9; have h7 : w1.heap.size ≤ w3.heap.size := hs3; omega)) HRN.out HRL.out
    · go_simp
      go_wp2_with fail
      refine hK.out _ _ ((((Keep.refl (fun _ => False) w3.drew).alloc (.cells #[] 87)).alloc (.cells #[.int .i64 r, .int .i64 level, .int .i64 now] 87))) (fun hHeld => ?_)
      clear hK K
      (try simp only [Act.put, List.setIfInBounds_toArray, List.set_cons_zero, List.set_cons_succ])
      refine heldT_one (j := 3) (by kernel_rfl) (by kernel_rfl) rfl (fun K hK => ?_)
      have HEB : Hid (w3.drew.heap.size ≤ w3.drew.heap.size) := by show _ ≤ _; first | exact Nat.le_refl _ | (simp; done)
      refine step_appR rfl _ _ 56 rfl w3.drew.heap.size 87 i0 (.agg #[.int .i64 0, .int .i64 0, .int .i64 0]) 3 24 Try.underlying56 HI0.out HZ0.out HZ1'.out HZ2.out rfl _ 0 [] rfl ((madeAt _ (by first | rfl | (simp; done)) (by first | exact Nat.le_refl _ | (simp; done))).alloc _) _ asks.length _ rfl (HRY.out.keep (((Keep.refl (fun _ => False) w3.drew).alloc (.cells #[] 87)).alloc (.cells #[.int .i64 r, .int .i64 level, .int .i64 now] 87)) (fun _ _ _ h => h)) HY1.out (by unfold maxLen; have := HAL.out; omega) (by have := HAL.out; omega) (by first | (simp; done) | (simp; omega)) ?_
      rintro A5 c5 w5 hown5 hk5 hg5 -
      rw [Nat.zero_add, List.nil_append] at hown5
      rw [Nat.zero_add]
      have HK5 : Hid (Keep (fun k => k = w3.drew.heap.size) ((w3.drew.alloc (.cells #[] 87)).alloc (.cells #[.int .i64 r, .int .i64 level, .int .i64 now] 87)) w5) := hk5.mono (fun q _ e => by have e2 := Option.some.inj e; subst e2; first | rfl | (simp; done))
      have HO5 := Lib.hid hown5
      refine hK.out _ _ (((((Keep.refl (fun _ => False) w3.drew).alloc (.cells #[] 87)).alloc (.cells #[.int .i64 r, .int .i64 level, .int .i64 now] 87))).trans HK5.out (fun q hq h => by have := HEB.out; omega)) (fun hHeld => ?_)
      clear hK K hown5 hk5 hg5
      (try simp only [Act.put, List.setIfInBounds_toArray, List.set_cons_zero, List.set_cons_succ])
      have HO6 : Hid (w5.ownsRow w3.drew.heap.size 87 3 (.slice A5 asks.length c5) asks.length (asks.flatMap askCells)) := HO5.out
      have HCB : Hid (∀ nb', nb' = (w3.drew.alloc (.cells #[] 87)).heap.size → w5.heap[nb']? = some (.cells #[.int .i64 r, .int .i64 level, .int .i64 now] 87)) := fun nb' e => (HK5.out.block nb' (by rw [e]; first | (simp; done) | (simp; omega)) (by rw [e]; first | (simp; done) | (simp; omega))).trans (newAt _ _ e)
      have HKX : Hid (Keep (fun _ => False) w3.drew w5) := ((((Keep.refl (fun _ => False) w3.drew).alloc (.cells #[] 87)).alloc (.cells #[.int .i64 r, .int .i64 level, .int .i64 now] 87))).trans HK5.out (fun q hq h => by have := HEB.out; omega)
      clear HK5
      refine heldT_one (j := 11) (by kernel_rfl) (by kernel_rfl) rfl (fun K hK => ?_)
      refine step_app1 rfl _ _ 56 rfl w3.drew.heap.size 87 i0 (.agg #[.int .i64 0, .int .i64 0, .int .i64 0]) 3 24 Try.underlying56 HI0.out HZ0.out HZ1'.out HZ2.out rfl (.slice A5 asks.length c5) asks.length (asks.flatMap askCells) rfl HO6.out _ #[.int .i64 r, .int .i64 level, .int .i64 now] (0, 0) 1 rfl (HCB.out _ (by simp)) rfl (by intro u hu; simp at hu; rcases hu with rfl | rfl | rfl <;> rfl) (by have := HAL.out; omega) (by omega) HKX.out.size ?_
      rintro A8 c8 w8 hown8 hk8 -
      have HK8 : Hid (Keep (fun _ => False) w3.drew w8) := HKX.out.trans hk8 (fun q hq e => by have := (HO6.out.lt q e).1; omega)
      have HO8 := Lib.hid hown8
      refine hK.out _ _ HK8.out (fun hHeld => ?_)
      clear hK K hown8 hk8 HO6 HCB HKX HO5
      (try simp only [Act.put, List.setIfInBounds_toArray, List.set_cons_zero, List.set_cons_succ])
      refine heldT_tail (by kernel_rfl) rfl rfl (by kernel_rfl) ?_
      (try simp only [List.drop_succ_cons, List.drop_zero])
      have HB8 : Hid (Bx4 w w8 (modC m) #[.int .i64 1, .int .i64 r, .int .i64 level, .int .i64 later, .slice tA tn tc]) := HB3.out.keep HK8.out (fun _ _ _ h => h)
      have y5 : w8.cell? ⟨w.heap.size, 5, none⟩ = some m.av := HB8.out.b4.cell 5 rfl
      have f5 : w8.frozen? ⟨w.heap.size, 5, none⟩ = false := HB8.out.b4.frozen 5
      go_wp2_with fail
      refine NoPanic.normal ?_
      obtain ⟨m', hm'⟩ : ∃ m' : MD, m' = { m with av := .slice A8 (asks.length + 1) c8 } := ⟨_, rfl⟩
      have hk5 : Keep (fun q => q = w.heap.size) w8 (w8.setCell ⟨w.heap.size, 5, none⟩ (.slice A8 (asks.length + 1) c8)) := (Keep.refl (fun q => q = w.heap.size) w8).setCell (p := ⟨w.heap.size, 5, none⟩) (.inl rfl) _
      have HBE : Hid (Bx4 w (w8.setCell ⟨w.heap.size, 5, none⟩ (.slice A8 (asks.length + 1) c8)) (modC m') #[.int .i64 1, .int .i64 r, .int .i64 level, .int .i64 later, .slice tA tn tc]) := ⟨by rw [hm']; exact HB8.out.b4.set' rfl, HB8.out.b6.keep hk5 (by omega), HB8.out.b8.keep hk5 (by omega), HB8.out.b9.keep hk5 (by omega)⟩
      have HM5 : Hid (m' = { m with av := .slice A8 (asks.length + 1) c8 }) := Lib.hid hm'
      have HMO5 : Hid (modOne m') := by rw [hm']; exact ⟨rfl, HMO.out.2.1, HMO.out.2.2⟩
      have HK85 := Lib.hid hk5
      clear hm' hk5 y5 f5
      generalize w8.setCell ⟨w.heap.size, 5, none⟩ (.slice A8 (asks.length + 1) c8) = wE at *
      go_wp2_with (first | (refine wpList_loadM rfl _ rfl _ rfl m' ?_ ?_; exact HBE.out.b4) | (refine wpList_storeM rfl _ _ rfl _ rfl m' md0 HMO5.out rfl ?_ ?_; exact HBE.out.b8; rintro wS hbS hkS; have HB9 := Lib.hid (HBE.out.b9.keep hkS.out (by omega)); have y9 := HB9.out.cell 0 rfl; have g9 := HB9.out.frozen 0))
      obtain ⟨e0, e1, e2, e3, e4, e5, e6, e7, e8, e9, e10, e11, e12, e13, e14⟩ := mod15 hbS.out
      have HSC : Hid (Keep (fun q => q = w.heap.size + 1 + 1 + 1) wS (wS.setCell ⟨w.heap.size + 1 + 1 + 1, 0, none⟩ (.bool true))) := (Keep.refl (fun q => q = w.heap.size + 1 + 1 + 1) wS).setCell (p := ⟨w.heap.size + 1 + 1 + 1, 0, none⟩) (.inl rfl) _
      refine bodyPost_ret (v := .tuple #[.agg (modC m'), .bool true]) (by simp [results, Try.results19, go_sem, modC, e0, e1, e2, e3, e4, e5, e6, e7, e8, e9, e10, e11, e12, e13, e14, y9]) rfl ⟨m', rfl, ?_⟩
      have hs3 : w1.drew.heap.size ≤ w3.heap.size := HK3.out.size
      have hs1 := HZ1.out
      have hkE : Keep (fun q => q = w.heap.size ∨ q = w.heap.size + 1 + 1 ∨ q = w.heap.size + 1 + 1 + 1) w8 (wS.setCell ⟨w.heap.size + 1 + 1 + 1, 0, none⟩ (.bool true)) := ((HK85.out.mono (fun q _ e => .inl e)).trans hkS.out (fun q _ e => .inr (.inl e))).trans HSC.out (fun q _ e => .inr (.inr e))
      have hkF : Keep (fun q => w.heap.size ≤ q) w3 (wS.setCell ⟨w.heap.size + 1 + 1 + 1, 0, none⟩ (.bool true)) := ((Keep.refl (fun q => w.heap.size ≤ q) w3).drew.trans HK8.out (fun q _ h => h.elim)).trans hkE (fun q _ e => by omega)
      rw [HM5.out]
      exact ask_end H.out HALL.out HKK.out HT.out HBLD.out HN3.out HK3.out hkF (ownsRow_keep HO8.out hkE (fun g' hg' e => by have h9 := (HO8.out.lt g' hg').1; have h8 : w3.heap.size ≤ g' := h9; have h7 : w1.heap.size ≤ w3.heap.size := hs3; omega)) HRN.out HRL.out
  · go_simp
    go_wp2_with fail
    refine hK.out _ _ (((Keep.refl (fun _ => False) w3.drew).alloc (.cells #[.int .i64 r, .int .i64 level, .int .i64 now] 87))) (fun hHeld => ?_)
    clear hK K
    (try simp only [Act.put, List.setIfInBounds_toArray, List.set_cons_zero, List.set_cons_succ])
    refine heldT_one (j := 0) (by kernel_rfl) (by kernel_rfl) rfl (fun K hK => ?_)
    go_simp
    go_wp2_with fail
    refine hK.out _ _ ((((Keep.refl (fun _ => False) w3.drew).alloc (.cells #[.int .i64 r, .int .i64 level, .int .i64 now] 87)).alloc (.cells #[] 87))) (fun hHeld => ?_)
    clear hK K
    (try simp only [Act.put, List.setIfInBounds_toArray, List.set_cons_zero, List.set_cons_succ])
    refine heldT_one (j := 3) (by kernel_rfl) (by kernel_rfl) rfl (fun K hK => ?_)
    have HEB : Hid (w3.drew.heap.size ≤ (w3.drew.alloc (.cells #[.int .i64 r, .int .i64 level, .int .i64 now] 87)).heap.size) := by show _ ≤ _; first | exact Nat.le_refl _ | (simp; done)
    refine step_appR rfl _ _ 56 rfl w3.drew.heap.size 87 i0 (.agg #[.int .i64 0, .int .i64 0, .int .i64 0]) 3 24 Try.underlying56 HI0.out HZ0.out HZ1'.out HZ2.out rfl _ 0 [] rfl (madeAt _ (by first | rfl | (simp; done)) (by first | exact Nat.le_refl _ | (simp; done))) _ asks.length _ rfl (HRY.out.keep (((Keep.refl (fun _ => False) w3.drew).alloc (.cells #[.int .i64 r, .int .i64 level, .int .i64 now] 87)).alloc (.cells #[] 87)) (fun _ _ _ h => h)) HY1.out (by unfold maxLen; have := HAL.out; omega) (by have := HAL.out; omega) (by first | (simp; done) | (simp; omega)) ?_
    rintro A5 c5 w5 hown5 hk5 hg5 -
    rw [Nat.zero_add, List.nil_append] at hown5
    rw [Nat.zero_add]
    have HK5 : Hid (Keep (fun k => k = (w3.drew.alloc (.cells #[.int .i64 r, .int .i64 level, .int .i64 now] 87)).heap.size) ((w3.drew.alloc (.cells #[.int .i64 r, .int .i64 level, .int .i64 now] 87)).alloc (.cells #[] 87)) w5) := hk5.mono (fun q _ e => by have e2 := Option.some.inj e; subst e2; first | rfl | (simp; done))
    have HO5 := Lib.hid hown5
    refine hK.out _ _ (((((Keep.refl (fun _ => False) w3.drew).alloc (.cells #[.int .i64 r, .int .i64 level, .int .i64 now] 87)).alloc (.cells #[] 87))).trans HK5.out (fun q hq h => by have := HEB.out; omega)) (fun hHeld => ?_)
    clear hK K hown5 hk5 hg5
    (try simp only [Act.put, List.setIfInBounds_toArray, List.set_cons_zero, List.set_cons_succ])
    have HO6 : Hid (w5.ownsRow w3.drew.heap.size 87 3 (.slice A5 asks.length c5) asks.length (asks.flatMap askCells)) := HO5.out
    have HCB : Hid (∀ nb', nb' = w3.drew.heap.size → w5.heap[nb']? = some (.cells #[.int .i64 r, .int .i64 level, .int .i64 now] 87)) := fun nb' e => (HK5.out.block nb' (by rw [e]; first | (simp; done) | (simp; omega)) (by rw [e]; first | (simp; done) | (simp; omega))).trans ((Below.heap_alloc _ _ _ (by rw [e]; first | (simp; done) | (simp; omega))).trans (newAt _ _ e))
    have HKX : Hid (Keep (fun _ => False) w3.drew w5) := ((((Keep.refl (fun _ => False) w3.drew).alloc (.cells #[.int .i64 r, .int .i64 level, .int .i64 now] 87)).alloc (.cells #[] 87))).trans HK5.out (fun q hq h => by have := HEB.out; omega)
    clear HK5
    refine heldT_one (j := 11) (by kernel_rfl) (by kernel_rfl) rfl (fun K hK => ?_)
    refine step_app1 rfl _ _ 56 rfl w3.drew.heap.size 87 i0 (.agg #[.int .i64 0, .int .i64 0, .int .i64 0]) 3 24 Try.underlying56 HI0.out HZ0.out HZ1'.out HZ2.out rfl (.slice A5 asks.length c5) asks.length (asks.flatMap askCells) rfl HO6.out _ #[.int .i64 r, .int .i64 level, .int .i64 now] (0, 0) 1 rfl (HCB.out _ (by simp)) rfl (by intro u hu; simp at hu; rcases hu with rfl | rfl | rfl <;> rfl) (by have := HAL.out; omega) (by omega) HKX.out.size ?_
    rintro A8 c8 w8 hown8 hk8 -
    have HK8 : Hid (Keep (fun _ => False) w3.drew w8) := HKX.out.trans hk8 (fun q hq e => by have := (HO6.out.lt q e).1; omega)
    have HO8 := Lib.hid hown8
    refine hK.out _ _ HK8.out (fun hHeld => ?_)
    clear hK K hown8 hk8 HO6 HCB HKX HO5
    (try simp only [Act.put, List.setIfInBounds_toArray, List.set_cons_zero, List.set_cons_succ])
    refine heldT_tail (by kernel_rfl) rfl rfl (by kernel_rfl) ?_
    (try simp only [List.drop_succ_cons, List.drop_zero])
    have HB8 : Hid (Bx4 w w8 (modC m) #[.int .i64 1, .int .i64 r, .int .i64 level, .int .i64 later, .slice tA tn tc]) := HB3.out.keep HK8.out (fun _ _ _ h => h)
    have y5 : w8.cell? ⟨w.heap.size, 5, none⟩ = some m.av := HB8.out.b4.cell 5 rfl
    have f5 : w8.frozen? ⟨w.heap.size, 5, none⟩ = false := HB8.out.b4.frozen 5
    go_wp2_with fail
    refine NoPanic.normal ?_
    obtain ⟨m', hm'⟩ : ∃ m' : MD, m' = { m with av := .slice A8 (asks.length + 1) c8 } := ⟨_, rfl⟩
    have hk5 : Keep (fun q => q = w.heap.size) w8 (w8.setCell ⟨w.heap.size, 5, none⟩ (.slice A8 (asks.length + 1) c8)) := (Keep.refl (fun q => q = w.heap.size) w8).setCell (p := ⟨w.heap.size, 5, none⟩) (.inl rfl) _
    have HBE : Hid (Bx4 w (w8.setCell ⟨w.heap.size, 5, none⟩ (.slice A8 (asks.length + 1) c8)) (modC m') #[.int .i64 1, .int .i64 r, .int .i64 level, .int .i64 later, .slice tA tn tc]) := ⟨by rw [hm']; exact HB8.out.b4.set' rfl, HB8.out.b6.keep hk5 (by omega), HB8.out.b8.keep hk5 (by omega), HB8.out.b9.keep hk5 (by omega)⟩
    have HM5 : Hid (m' = { m with av := .slice A8 (asks.length + 1) c8 }) := Lib.hid hm'
    have HMO5 : Hid (modOne m') := by rw [hm']; exact ⟨rfl, HMO.out.2.1, HMO.out.2.2⟩
    have HK85 := Lib.hid hk5
    clear hm' hk5 y5 f5
    generalize w8.setCell ⟨w.heap.size, 5, none⟩ (.slice A8 (asks.length + 1) c8) = wE at *
    go_wp2_with (first | (refine wpList_loadM rfl _ rfl _ rfl m' ?_ ?_; exact HBE.out.b4) | (refine wpList_storeM rfl _ _ rfl _ rfl m' md0 HMO5.out rfl ?_ ?_; exact HBE.out.b8; rintro wS hbS hkS; have HB9 := Lib.hid (HBE.out.b9.keep hkS.out (by omega)); have y9 := HB9.out.cell 0 rfl; have g9 := HB9.out.frozen 0))
    obtain ⟨e0, e1, e2, e3, e4, e5, e6, e7, e8, e9, e10, e11, e12, e13, e14⟩ := mod15 hbS.out
    have HSC : Hid (Keep (fun q => q = w.heap.size + 1 + 1 + 1) wS (wS.setCell ⟨w.heap.size + 1 + 1 + 1, 0, none⟩ (.bool true))) := (Keep.refl (fun q => q = w.heap.size + 1 + 1 + 1) wS).setCell (p := ⟨w.heap.size + 1 + 1 + 1, 0, none⟩) (.inl rfl) _
    refine bodyPost_ret (v := .tuple #[.agg (modC m'), .bool true]) (by simp [results, Try.results19, go_sem, modC, e0, e1, e2, e3, e4, e5, e6, e7, e8, e9, e10, e11, e12, e13, e14, y9]) rfl ⟨m', rfl, ?_⟩
    have hs3 : w1.drew.heap.size ≤ w3.heap.size := HK3.out.size
    have hs1 := HZ1.out
    have hkE : Keep (fun q => q = w.heap.size ∨ q = w.heap.size + 1 + 1 ∨ q = w.heap.size + 1 + 1 + 1) w8 (wS.setCell ⟨w.heap.size + 1 + 1 + 1, 0, none⟩ (.bool true)) := ((HK85.out.mono (fun q _ e => .inl e)).trans hkS.out (fun q _ e => .inr (.inl e))).trans HSC.out (fun q _ e => .inr (.inr e))
    have hkF : Keep (fun q => w.heap.size ≤ q) w3 (wS.setCell ⟨w.heap.size + 1 + 1 + 1, 0, none⟩ (.bool true)) := ((Keep.refl (fun q => w.heap.size ≤ q) w3).drew.trans HK8.out (fun q _ h => h.elim)).trans hkE (fun q _ e => by omega)
    rw [HM5.out]
    exact ask_end H.out HALL.out HKK.out HT.out HBLD.out HN3.out HK3.out hkF (ownsRow_keep HO8.out hkE (fun g' hg' e => by have h9 := (HO8.out.lt g' hg').1; have h8 : w3.heap.size ≤ g' := h9; have h7 : w1.heap.size ≤ w3.heap.size := hs3; omega)) HRN.out HRL.out
end Go.Proofs.Ytlodiibmofeikaa
