/- simnet: the law's same. -/
import Derived.Test.YtlodiibmofeikaaQNetSt
namespace Go.Proofs.Ytlodiibmofeikaa
open Go.RowKit Go.Shelf
set_option linter.unusedVariables false
set_option linter.unusedSimpArgs false
set_option maxRecDepth 100000 in
set_option maxHeartbeats 4000000 in
theorem same_any (w : World) {col : Nat → Nat} {nb n : Nat} {delay room j lv : Int} {F : List FD} {m : MD} {k : Nat} {t : Int} (h : NM w col nb n delay room j lv F m k t) :
    Calls Try.prog 20 #[.agg (modC m), .pointer (some ⟨nb, 0, none⟩)] w fun e w' => e = .returned (.bool true) ∧ Below w.heap.size w w' := by
  obtain ⟨⟨gd, pv, P, fv, asks, vs, Xs, hN, hM, hpi, hj, hlv, hPl, hXl, hS, -⟩, ⟨hrc, -⟩, hcf, -⟩ := h
  have HN := Lib.hid hN
  have HM := Lib.hid hM
  have HS := Lib.hid hS
  have hgl : gd.l.length = n := hpi.len
  have hn8 := hcf.n
  have HGL := Lib.hid hgl
  have HPL := Lib.hid hPl
  have HXL := Lib.hid hXl
  have HVL : Hid (vs.length = n + 1) := by rw [← hXl]; exact hM.len
  have HRC := Lib.hid hrc
  obtain ⟨lA, lc, hlv2⟩ := ownsRow_slice hM.lists
  have HLV := Lib.hid hlv2
  have H1 := Lib.hid (Blk.new w (modC m) 59)
  have hx0 : (w.alloc (.cells (modC m) 59)).cell? ⟨w.heap.size, 0, none⟩ = some (.int .i64 (n : Int)) := by rw [← hrc]; exact H1.out.cell 0 rfl
  have HB1 := Lib.hid ((Below.refl _ w).alloc (Nat.le_refl _) (.cells (modC m) 59))
  clear hN hM hS hgl hPl hXl hrc hlv2 hpi hj hlv hcf
  go_enter Try.func20, Try.ntmps20
  go_wp2_with (refine wpList_boxM rfl _ rfl m rfl ?_; rintro w1 hw1 - - -; have hw1' := hw1.out; subst hw1'; clear hw1)
  generalize w.alloc (.cells (modC m) 59) = w1 at *
  clear hx0
  go_loopw [5, 9] (fun _ i wr => ∃ k : Nat, k ≤ n ∧ i = .int .i64 k ∧ Hid (Below w1.heap.size w1 wr)) (fun _ i _ => n - (intOf i).toNat)
  case atStart => exact ⟨0, by omega, rfl, Below.refl _ _⟩
  case round =>
    obtain ⟨k, hk, rfl, HB⟩ := hrel
    by_cases hlt : k < n
    · obtain ⟨pd, hpd⟩ : ∃ pd, P[k]? = some pd := ⟨_, List.getElem?_eq_getElem (by rw [HPL.out]; omega)⟩
      obtain ⟨X, hX⟩ : ∃ X, Xs[k]? = some X := ⟨_, List.getElem?_eq_getElem (by rw [HXL.out]; omega)⟩
      obtain ⟨v, hv⟩ : ∃ v, vs[k]? = some v := ⟨_, List.getElem?_eq_getElem (by rw [HVL.out]; omega)⟩
      obtain ⟨lg, rfl⟩ : ∃ lg, lA = some ⟨lg, 0, none⟩ := by
        have h := HM.out.lists
        rw [HLV.out] at h
        rcases h.2 with ⟨-, h0⟩ | ⟨lg, cap, cur, he, -⟩
        · have := HVL.out; omega
        · cases he; exact ⟨lg, rfl⟩
      obtain ⟨hrel, hroom⟩ := HS.out k pd X hpd hX
      have hxr := (HM.out.each k v X hv hX).1
      obtain ⟨xA, xc, rfl⟩ := ownsRow_slice hxr
      have hlen : pd.l.length = X.length := by have h1 := congrArg List.length hrel; rw [List.length_map, sorted_len] at h1; exact h1
      have hww := bmore HB1.out HB.out HB1.out.size
      have HPD := Lib.hid hpd
      have HGK : Hid (k < gd.l.length) := by rw [HGL.out]; exact hlt
      have HP10 : Hid (P.length ≤ 1000) := by rw [HPL.out]; show _ ≤ _; omega
      have HVK := Lib.hid hv
      have hne : (((pd.l.length : Nat) : Int) != ((X.length : Nat) : Int)) = false := by rw [hlen]; simp
      have i1 : (0 : Int) ≤ (k : Int) := by omega
      have i2 : (k : Int) < ((vs.length : Nat) : Int) := by have := HVL.out; omega
      have HND : Hid (NetAt wr.drew col nb gd delay room pv P fv F m.used m.s) := HN.out.below (below_drewN hww 1)
      have HBD : Hid (Blk wr.drew w.heap.size (modC m) 59) := (H1.out.below HB.out).drew
      have HLR : Hid (wr.drew.ownsRow 0 92 1 (.slice (some ⟨lg, 0, none⟩) vs.length lc) vs.length vs) := by have h := (HM.out.below (below_drewN hww 1)).lists; rw [HLV.out] at h; exact h
      have HBW : Hid (Below w1.heap.size w1 wr.drew) := below_drewN HB.out 1
      clear hpd hX hv hrel hroom hxr hlen hww
      go_wp2_with fail
      refine wp_region_heldT (S := (fun W' => Keep (fun _ => False) wr.drew W')) 9 (by kernel_rfl) (Keep.refl _ _) (fun hHeld => ?_)
      refine heldT_free (i := 0) (oi := { dst := some 12, op := Op.move (Operand.tmp 1), type := 25, pos := "law.go:146", after := #[], guard := none }) (v := ?_) rfl (by kernel_rfl) (by kernel_rfl) (by kernel_rfl) (by kernel_rfl) (fun _ _ _ h => h) (Or.inl ⟨by rfl, ?_⟩) hHeld ?_
      rotate_left 1
      · intro wS; go_simp <;> with_reducible rfl
      (try simp only [Act.put, List.setIfInBounds_toArray, List.set_cons_zero, List.set_cons_succ])
      refine heldT_free (i := 1) (oi := { dst := some 13, op := Op.move (Operand.tmp 5), type := 3, pos := "law.go:146", after := #[], guard := none }) (v := ?_) rfl (by kernel_rfl) (by kernel_rfl) (by kernel_rfl) (by kernel_rfl) (fun _ _ _ h => h) (Or.inl ⟨by rfl, ?_⟩) hHeld ?_
      rotate_left 1
      · intro wS; go_simp <;> with_reducible rfl
      (try simp only [Act.put, List.setIfInBounds_toArray, List.set_cons_zero, List.set_cons_succ])
      refine heldT_free (i := 3) (oi := { dst := some 15, op := Op.fieldAddr 59 (Operand.tmp 2) 2, type := 0, pos := "law.go:146", after := #[], guard := none }) (v := ?_) rfl (by kernel_rfl) (by kernel_rfl) (by kernel_rfl) (by kernel_rfl) (fun _ _ _ h => h) (Or.inl ⟨by rfl, ?_⟩) hHeld ?_
      rotate_left 1
      · intro wS; go_simp <;> with_reducible rfl
      (try simp only [Act.put, List.setIfInBounds_toArray, List.set_cons_zero, List.set_cons_succ])
      refine heldT_takeC [8, 7, 6] (i := 4) (oi := { dst := some 16, op := Op.load 55 (Operand.tmp 15), type := 55, pos := "law.go:146", after := #[{ on := 3, ground := Ground.data }], guard := none }) (v := ?_) rfl (by kernel_rfl) (by kernel_rfl) (by kernel_rfl) (by kernel_rfl) (fun _ _ _ h => h) (Or.inl ⟨by rfl, ?_⟩) hHeld ?_
      rotate_left 1
      · intro wS hSw; have hq := HBD.out.keep hSw (fun h => h); have q : wS.cell? ⟨w.heap.size, 6, none⟩ = some (.slice (some ⟨lg, 0, none⟩) vs.length lc) := by rw [← HLV.out]; exact hq.cell 6 rfl
        clear hq hSw
        go_simp <;> with_reducible rfl
      (try simp only [Act.put, List.setIfInBounds_toArray, List.set_cons_zero, List.set_cons_succ])
      refine heldT_free (i := 5) (oi := { dst := some 17, op := Op.move (Operand.tmp 5), type := 3, pos := "law.go:146", after := #[], guard := none }) (v := ?_) rfl (by kernel_rfl) (by kernel_rfl) (by kernel_rfl) (by kernel_rfl) (fun _ _ _ h => h) (Or.inl ⟨by rfl, ?_⟩) hHeld ?_
      rotate_left 1
      · intro wS; go_simp <;> with_reducible rfl
      (try simp only [Act.put, List.setIfInBounds_toArray, List.set_cons_zero, List.set_cons_succ])
      refine heldT_free (i := 6) (oi := { dst := some 18, op := Op.indexAddr 55 (Operand.tmp 16) (Operand.tmp 17), type := 0, pos := "law.go:146", after := #[{ on := 4, ground := Ground.data }, { on := 5, ground := Ground.data }], guard := none }) (v := ?_) rfl (by kernel_rfl) (by kernel_rfl) (by kernel_rfl) (by kernel_rfl) (fun _ _ _ h => h) (Or.inl ⟨by rfl, ?_⟩) hHeld ?_
      rotate_left 1
      · intro wS; go_simp <;> with_reducible rfl
      (try simp only [Act.put, List.setIfInBounds_toArray, List.set_cons_zero, List.set_cons_succ])
      refine heldT_takeC [8] (i := 7) (oi := { dst := some 19, op := Op.load 92 (Operand.tmp 18), type := 92, pos := "law.go:146", after := #[{ on := 6, ground := Ground.data }], guard := none }) (v := ?_) rfl (by kernel_rfl) (by kernel_rfl) (by kernel_rfl) (by kernel_rfl) (fun _ _ _ h => h) (Or.inl ⟨by rfl, ?_⟩) hHeld ?_
      rotate_left 1
      · intro wS hSw; have q := ownsRow_cell (ownsRow_keep HLR.out hSw (fun _ _ h => h)) (j := k) HVK.out; clear hSw; go_simp <;> with_reducible rfl
      (try simp only [Act.put, List.setIfInBounds_toArray, List.set_cons_zero, List.set_cons_succ])
      refine heldT_free (i := 8) (oi := { dst := some 20, op := Op.call { callee := Callee.builtin Builtin.len, args := #[Operand.tmp 19], argTypes := #[92] }, type := 3, pos := "law.go:146", after := #[{ on := 7, ground := Ground.data }], guard := none }) (v := ?_) rfl (by kernel_rfl) (by kernel_rfl) (by kernel_rfl) (by kernel_rfl) (fun _ _ _ h => h) (Or.inl ⟨by rfl, ?_⟩) hHeld ?_
      rotate_left 1
      · intro wS; go_simp <;> with_reducible rfl
      (try simp only [Act.put, List.setIfInBounds_toArray, List.set_cons_zero, List.set_cons_succ])
      refine heldT_one (j := 2) (by kernel_rfl) (by kernel_rfl) rfl (fun K hK => ?_)
      go_simp
      refine ((waiting_yes HND.out k pd HPD.out HGK.out HP10.out).mono ?_)
      rintro e w9 ⟨rfl, rfl⟩
      go_wp2_with fail
      refine hK.out _ _ (Keep.refl _ _) (fun hHeld => ?_)
      clear hK K
      (try simp only [Act.put, List.setIfInBounds_toArray, List.set_cons_zero, List.set_cons_succ])
      refine heldT_tail (by kernel_rfl) rfl rfl (by kernel_rfl) ?_
      (try simp only [List.drop_succ_cons, List.drop_zero])
      go_wp2_with fail
      refine NoPanic.normal ?_
      go_wp2_with fail
      go_roundw
      case rel => exact ⟨k + 1, by omega, by go_num, HBW⟩
      case measure => simp [intOf]; omega
    · obtain rfl : k = n := by omega
      have hww := bmore HB1.out HB.out HB1.out.size
      have HND : Hid (NetAt wr.drew col nb gd delay room pv P fv F m.used m.s) := HN.out.below (below_drewN hww 1)
      have HBD : Hid (Blk wr.drew w.heap.size (modC m) 59) := (H1.out.below HB.out).drew
      have HBW : Hid (Below w.heap.size w wr.drew) := below_drewN hww 1
      have hue : (((m.used : Nat) : Int) == ((m.used : Nat) : Int)) = true := by simp
      clear hww
      go_wp2_with fail
      refine wp_region_heldT (S := (fun W' => Keep (fun _ => False) wr.drew W')) 11 (by kernel_rfl) (Keep.refl _ _) (fun hHeld => ?_)
      refine heldT_free (i := 0) (oi := { dst := some 23, op := Op.move (Operand.tmp 1), type := 25, pos := "law.go:150", after := #[], guard := none }) (v := ?_) rfl (by kernel_rfl) (by kernel_rfl) (by kernel_rfl) (by kernel_rfl) (fun _ _ _ h => h) (Or.inl ⟨by rfl, ?_⟩) hHeld ?_
      rotate_left 1
      · intro wS; go_simp <;> with_reducible rfl
      (try simp only [Act.put, List.setIfInBounds_toArray, List.set_cons_zero, List.set_cons_succ])
      refine heldT_free (i := 2) (oi := { dst := some 25, op := Op.fieldAddr 59 (Operand.tmp 2) 4, type := 0, pos := "law.go:150", after := #[], guard := none }) (v := ?_) rfl (by kernel_rfl) (by kernel_rfl) (by kernel_rfl) (by kernel_rfl) (fun _ _ _ h => h) (Or.inl ⟨by rfl, ?_⟩) hHeld ?_
      rotate_left 1
      · intro wS; go_simp <;> with_reducible rfl
      (try simp only [Act.put, List.setIfInBounds_toArray, List.set_cons_zero, List.set_cons_succ])
      refine heldT_takeC [5, 4] (i := 3) (oi := { dst := some 26, op := Op.load 3 (Operand.tmp 25), type := 3, pos := "law.go:150", after := #[{ on := 2, ground := Ground.data }], guard := none }) (v := ?_) rfl (by kernel_rfl) (by kernel_rfl) (by kernel_rfl) (by kernel_rfl) (fun _ _ _ h => h) (Or.inl ⟨by rfl, ?_⟩) hHeld ?_
      rotate_left 1
      · intro wS hSw; have hq := HBD.out.keep hSw (fun h => h); have q : wS.cell? ⟨w.heap.size, 8, none⟩ = some (.int .i64 (m.used : Int)) := hq.cell 8 rfl; clear hq hSw; go_simp <;> with_reducible rfl
      (try simp only [Act.put, List.setIfInBounds_toArray, List.set_cons_zero, List.set_cons_succ])
      refine heldT_one (j := 1) (by kernel_rfl) (by kernel_rfl) rfl (fun K hK => ?_)
      go_simp
      refine ((netUsed_any HND.out).mono ?_)
      rintro e w9 ⟨rfl, rfl⟩
      go_wp2_with fail
      refine hK.out _ _ (Keep.refl _ _) (fun hHeld => ?_)
      clear hK K
      (try simp only [Act.put, List.setIfInBounds_toArray, List.set_cons_zero, List.set_cons_succ])
      refine heldT_free (i := 4) (oi := { dst := some 27, op := Op.binOp BinOp.eql 3 (Operand.tmp 24) (Operand.tmp 26) 3, type := 4, pos := "law.go:150", after := #[{ on := 1, ground := Ground.data }, { on := 3, ground := Ground.data }], guard := none }) (v := ?_) rfl (by kernel_rfl) (by kernel_rfl) (by kernel_rfl) (by kernel_rfl) (fun _ _ _ h => h) (Or.inl ⟨by rfl, ?_⟩) hHeld ?_
      rotate_left 1
      · intro wS; go_simp <;> with_reducible rfl
      (try simp only [Act.put, List.setIfInBounds_toArray, List.set_cons_zero, List.set_cons_succ])
      refine heldT_free (i := 5) (oi := { dst := some 28, op := Op.move (Operand.tmp 27), type := 4, pos := "law.go:150", after := #[{ on := 4, ground := Ground.data }, { on := 1, ground := Ground.chain }], guard := none }) (v := ?_) rfl (by kernel_rfl) (by kernel_rfl) (by kernel_rfl) (by kernel_rfl) (fun _ _ _ h => h) (Or.inl ⟨by rfl, ?_⟩) hHeld ?_
      rotate_left 1
      · intro wS; go_simp <;> with_reducible rfl
      (try simp only [Act.put, List.setIfInBounds_toArray, List.set_cons_zero, List.set_cons_succ])
      refine heldT_free (i := 6) (oi := { dst := some 29, op := Op.move (Operand.tmp 1), type := 25, pos := "law.go:150", after := #[{ on := 5, ground := Ground.guard }], guard := some (5, true) }) (v := ?_) rfl (by kernel_rfl) (by kernel_rfl) (by kernel_rfl) (by kernel_rfl) (fun _ _ _ h => h) (Or.inl ⟨by rfl, ?_⟩) hHeld ?_
      rotate_left 1
      · intro wS; go_simp <;> with_reducible rfl
      (try simp only [Act.put, List.setIfInBounds_toArray, List.set_cons_zero, List.set_cons_succ])
      refine heldT_free (i := 8) (oi := { dst := some 31, op := Op.fieldAddr 59 (Operand.tmp 2) 5, type := 0, pos := "law.go:150", after := #[{ on := 5, ground := Ground.guard }], guard := some (5, true) }) (v := ?_) rfl (by kernel_rfl) (by kernel_rfl) (by kernel_rfl) (by kernel_rfl) (fun _ _ _ h => h) (Or.inl ⟨by rfl, ?_⟩) hHeld ?_
      rotate_left 1
      · intro wS; go_simp <;> with_reducible rfl
      (try simp only [Act.put, List.setIfInBounds_toArray, List.set_cons_zero, List.set_cons_succ])
      refine heldT_takeC [10] (i := 9) (oi := { dst := some 32, op := Op.load 57 (Operand.tmp 31), type := 57, pos := "law.go:150", after := #[{ on := 8, ground := Ground.data }, { on := 5, ground := Ground.guard }], guard := some (5, true) }) (v := ?_) rfl (by kernel_rfl) (by kernel_rfl) (by kernel_rfl) (by kernel_rfl) (fun _ _ _ h => h) (Or.inl ⟨by rfl, ?_⟩) hHeld ?_
      rotate_left 1
      · intro wS hSw; have hq := HBD.out.keep hSw (fun h => h); have q0 : wS.cell? ⟨w.heap.size, 9, none⟩ = some (.int .i64 m.s.sent) := hq.cell 9 rfl; have q1 : wS.cell? ⟨w.heap.size, 10, none⟩ = some (.int .i64 m.s.lost) := hq.cell 10 rfl; have q2 : wS.cell? ⟨w.heap.size, 11, none⟩ = some (.int .i64 m.s.dropped) := hq.cell 11 rfl; have q3 : wS.cell? ⟨w.heap.size, 12, none⟩ = some (.int .i64 m.s.doubled) := hq.cell 12 rfl; have q4 : wS.cell? ⟨w.heap.size, 13, none⟩ = some (.int .i64 m.s.late) := hq.cell 13 rfl; have q5 : wS.cell? ⟨w.heap.size, 14, none⟩ = some (.int .i64 m.s.turned) := hq.cell 14 rfl; clear hq hSw; go_simp <;> with_reducible rfl
      (try simp only [Act.put, List.setIfInBounds_toArray, List.set_cons_zero, List.set_cons_succ])
      refine heldT_one (j := 7) (by kernel_rfl) (by kernel_rfl) rfl (fun K hK => ?_)
      go_simp
      refine ((netStats_any HND.out).mono ?_)
      rintro e w9 ⟨rfl, hb9⟩
      have HB9 := Lib.hid hb9
      have HK9 : Hid (Keep (fun _ => False) wr.drew w9) := Lib.hid (Keep.ofBelowAll hb9)
      clear hb9
      go_wp2_with fail
      refine hK.out _ _ HK9.out (fun hHeld => ?_)
      clear hK K
      (try simp only [Act.put, List.setIfInBounds_toArray, List.set_cons_zero, List.set_cons_succ])
      refine heldT_free (i := 10) (oi := { dst := some 33, op := Op.binOp BinOp.eql 57 (Operand.tmp 30) (Operand.tmp 32) 57, type := 4, pos := "law.go:150", after := #[{ on := 7, ground := Ground.data }, { on := 9, ground := Ground.data }, { on := 5, ground := Ground.guard }], guard := some (5, true) }) (v := ?_) rfl (by kernel_rfl) (by kernel_rfl) (by kernel_rfl) (by kernel_rfl) (fun _ _ _ h => h) (Or.inl ⟨by rfl, ?_⟩) hHeld ?_
      rotate_left 1
      · intro wS; go_simp <;> with_reducible rfl
      (try simp only [Act.put, List.setIfInBounds_toArray, List.set_cons_zero, List.set_cons_succ])
      refine heldT_tail (by kernel_rfl) rfl rfl (by kernel_rfl) ?_
      (try simp only [List.drop_succ_cons, List.drop_zero])
      go_wp2_with fail
      refine NoPanic.normal ?_
      go_wp2
      go_ret
      exact ⟨rfl, bmore HBW.out HB9.out HBW.out.size⟩
end Go.Proofs.Ytlodiibmofeikaa
