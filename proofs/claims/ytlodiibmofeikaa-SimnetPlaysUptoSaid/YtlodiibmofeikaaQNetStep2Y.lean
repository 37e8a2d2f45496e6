/- simnet: the law's step of kind 2. -/
import Derived.Test.YtlodiibmofeikaaQNetStepE
namespace Go.Proofs.Ytlodiibmofeikaa
open Go.RowKit Go.Shelf
set_option linter.unusedVariables false
set_option linter.unusedSimpArgs false
set_option maxRecDepth 100000 in
set_option maxHeartbeats 4000000 in
theorem step_2y (w : World) {col : Nat → Nat} {nb n : Nat} {delay room j lv : Int} {F : List FD} {m : MD} {k : Nat} {t : Int} (h : NM w col nb n delay room j lv F m k t) (hk : k < 1000) (now : Int) (ht : t ≤ now ∧ now ≤ t + 100) (r level later : Int) (tA : Option Addr) (tn tc : Nat) (bs : List Int) (hx : Reads w 1 (.slice tA tn tc) tn (u8s bs)) (hbs : bs.length = tn) (hbt : BtsI bs) (hxo : ∀ g, (Value.slice tA tn tc).ownBlock = some g → 0 < tn → col g = 0 ∧ g < w.heap.size) (g0 : 0 ≤ level) (g1 : level ≤ 7) (g2 : tn ≤ 320) :
    Calls Try.prog 19 #[.agg (modC m), .pointer (some ⟨nb, 0, none⟩), .agg #[.int .i64 2, .int .i64 r, .int .i64 level, .int .i64 later, .slice tA tn tc], .int .i64 now] w fun e w' => ∃ m', e = .returned (.tuple #[.agg (modC m'), .bool true]) ∧ SR w w' col nb n delay room j lv F m' (k + 1) now := by
  subst hbs
  have H := Lib.hid h
  have hrc := h.cfg.1
  obtain ⟨hb4, hb6, hb8, hb9, hbl, hzz⟩ := boxes4n w (modC m) #[.int .i64 2, .int .i64 r, .int .i64 level, .int .i64 later, .slice tA bs.length tc] (modC md0) #[.bool false] 59 61 59 4
  have hx0 : ((((w.alloc (.cells (modC m) 59)).alloc (.cells #[.int .i64 2, .int .i64 r, .int .i64 level, .int .i64 later, .slice tA bs.length tc] 61)).alloc (.cells (modC md0) 59)).alloc (.cells #[.bool false] 4)).cell? ⟨w.heap.size, 0, none⟩ = some (.int .i64 (n : Int)) := by rw [← hrc]; exact hb4.cell 0 rfl
  obtain ⟨x0, x1, x2, x3, x4⟩ := blk5' hb6
  have HB : Hid (Bx4 w ((((w.alloc (.cells (modC m) 59)).alloc (.cells #[.int .i64 2, .int .i64 r, .int .i64 level, .int .i64 later, .slice tA bs.length tc] 61)).alloc (.cells (modC md0) 59)).alloc (.cells #[.bool false] 4)) (modC m) #[.int .i64 2, .int .i64 r, .int .i64 level, .int .i64 later, .slice tA bs.length tc]) := ⟨hb4, hb6, hb8, hb9⟩
  have HBL := Lib.hid hbl
  have HZZ : Hid (((((w.alloc (.cells (modC m) 59)).alloc (.cells #[.int .i64 2, .int .i64 r, .int .i64 level, .int .i64 later, .slice tA bs.length tc] 61)).alloc (.cells (modC md0) 59)).alloc (.cells #[.bool false] 4)).heap.size = w.heap.size + 1 + 1 + 1 + 1) := hzz
  have H1 := Lib.hid (h.below hbl)
  have HMO : Hid (modOne m) := by
    obtain ⟨⟨gd, pv, P, fv, asks, vs, Xs, -, hM, -⟩, -⟩ := h
    exact hM.modOne
  have hn8 := h.cf.n
  have HT := Lib.hid ht
  have HKK := Lib.hid hk
  have HX := Lib.hid (hx.below hbl)
  have HBT := Lib.hid hbt
  have HXO := Lib.hid hxo
  clear h hrc hb4 hb6 hb8 hb9 hbl hzz ht hk hx hbt hxo
  rcases (by omega : r < 0 ∨ (0 ≤ r ∧ r < (n : Int)) ∨ (0 ≤ r ∧ (n : Int) ≤ r)) with g | ⟨g, g'⟩ | ⟨g, g'⟩
  all_goals
    (try (have hd : decide (r < (n : Int)) = false := decide_eq_false (by omega)))
    go_enter Try.func19, Try.ntmps19
    go_wp2_with (first | (refine wpList_boxM rfl _ rfl m rfl ?_; rintro w1 hw1 - - -; have hw1' := hw1.out; subst hw1'; clear hw1) | (refine wpList_allocM rfl rfl ?_; rintro w2 hw2 - - -; have hw2' := hw2.out; subst hw2'; clear hw2))
    generalize ((((w.alloc (.cells (modC m) 59)).alloc (.cells #[.int .i64 2, .int .i64 r, .int .i64 level, .int .i64 later, .slice tA bs.length tc] 61)).alloc (.cells (modC md0) 59)).alloc (.cells #[.bool false] 4)) = w1 at *
    obtain ⟨gd, pv, P, fv, asks, vs, Xs, hN0, hM0, hpi, hj, hlv, hPl, hXl, hS, hAt⟩ := H.out.ex
    have HALL : Hid (NetAt w col nb gd delay room pv P fv F m.used m.s ∧ MdAt w (fun q => col q = 0) m asks vs Xs F ∧ PInv n j lv gd.l asks k ∧ gd.j = j ∧ gd.lv = lv ∧ P.length = n + 1 ∧ Xs.length = n + 1 ∧ Same room P Xs ∧ (∀ a ∈ asks, a.now ≤ t)) := ⟨hN0, hM0, hpi, hj, hlv, hPl, hXl, hS, hAt⟩
    have hgl : gd.l.length = n := hpi.len
    have hs1 := HBL.out.size
    have hcf := H.out.cf
    have htb := H.out.tb
    have hkb := H.out.kb
    have hkk := HKK.out
    have hfl := H.out.fl
    have hus := H.out.used
    have ht2 := HT.out
    have hro := hcf.room
    have hde := hcf.delay
    have hsend := send_yes (hN0.below HBL.out) level now (by omega) (by omega) ⟨g0, g1⟩ tA tc bs g2 HBT.out HX.out (fun q hq hp => ⟨(HXO.out q hq hp).1, by have := (HXO.out q hq hp).2; omega⟩) (by omega) (fun p hp => by
      obtain ⟨i, hi, hie⟩ := List.mem_iff_getElem.1 hp
      exact (hS i p Xs[i] (by rw [List.getElem?_eq_getElem hi, hie]) (List.getElem?_eq_getElem (by omega))).2) (H.out.st.mono (by omega)) (by omega) (by omega) hde (by omega)
    rw [hgl] at hsend
    obtain ⟨cnt, hcnt⟩ : ∃ c, c = (memN gd.l level now n).length := ⟨_, rfl⟩
    rw [← hcnt] at hsend
    have HCNT := Lib.hid hcnt
    have HSD := Lib.hid hsend
    have HG2 : Hid (bs.length ≤ 320) := g2
    have HXL := Lib.hid hXl
    have HM0 := Lib.hid hM0
    have HLT : Hid (∀ q, col q ≠ 0 → q < w.heap.size) := fun q hq => hN0.lt hq
    have HJL : Hid (0 ≤ j ∧ j ≤ 64 ∧ 0 ≤ lv ∧ lv ≤ 64) := ⟨hcf.j.1, hcf.j.2, hcf.lv.1, hcf.lv.2⟩
    have HASK : Hid (asks.length ≤ 1000 ∧ AsksOk asks) := ⟨by have := hpi.xlen; omega, hpi.ok⟩
    have HSTB : Hid (StB 27000 m.s) := H.out.st.mono (by omega)
    have HXB : Hid (∀ X ∈ Xs, X.length ≤ 256) := fun X hX => by
      obtain ⟨i, hi, hie⟩ := List.mem_iff_getElem.1 hX
      obtain ⟨hrel, hroom⟩ := hS i P[i] X (List.getElem?_eq_getElem (by omega)) (by rw [List.getElem?_eq_getElem hi, hie])
      have h1 := congrArg List.length hrel
      rw [List.length_map, sorted_len] at h1
      omega
    have HMEM : Hid (∀ i, i < n → memN gd.l level now (i + 1) = if level ≤ (rfold j lv (i : Int) asks).at now then memN gd.l level now i ++ [i] else memN gd.l level now i) := fun i hi => by
      show (if 0 ≤ level ∧ level ≤ (gd.l.getD i one0).at now then memN gd.l level now i ++ [i] else memN gd.l level now i) = _
      rw [List.getD_eq_getElem?_getD, hpi.at_ i hi]
      by_cases hg : level ≤ (rfold j lv (i : Int) asks).at now
      · rw [if_pos hg, if_pos ⟨g0, hg⟩]
      · rw [if_neg hg, if_neg (fun a => hg a.2)]
    have HBND : Hid (F.length ≤ 200 ∧ m.used ≤ 9000 ∧ 0 ≤ now ∧ now ≤ 200000 ∧ (0 ≤ delay ∧ delay ≤ 64)) := ⟨hfl, by omega, by omega, by omega, hde⟩
    clear hN0 hM0 hpi hj hlv hPl hXl hS hAt hgl hs1 hcf htb hkb hkk hfl hus ht2 hro hde hsend hcnt x0 x1 x2 x3 x4 hx0
    refine HSD.out.mono ?_
    rintro e w5 ⟨rfl, hns⟩
    obtain ⟨⟨col', P', u', s', hN5, hc5, hq5⟩, hk5⟩ := hns
    have HN5 := Lib.hid hN5
    have HC5 := Lib.hid hc5
    have HQ5 := Lib.hid hq5
    have HK5 := Lib.hid hk5
    have HB5 : Hid (Bx4 w w5 (modC m) #[.int .i64 2, .int .i64 r, .int .i64 level, .int .i64 later, .slice tA bs.length tc]) := HB.out.keep hk5 (fun q hq _ e => by have := HLT.out q e.1; omega)
    have HX5 : Hid (Reads w5 1 (.slice tA bs.length tc) bs.length (u8s bs)) := HX.out.keep hk5 (fun q hq hp e => e.1 (HXO.out q hq hp).1)
    have HM5 : Hid (MdAt w5 (fun q => (col' q = 0 ∧ q < w.heap.size) ∨ w5.heap.size ≤ q) m asks vs Xs F) := ((HM0.out.mono (G' := fun q => col q = 0 ∧ q < w.heap.size) (fun q a b => ⟨a, b⟩)).below HBL.out |>.keep hk5 (fun q a e => e.1 a.1)).mono (fun q a _ => .inl ⟨by rw [hc5 q (by have := HBL.out.size; omega)]; exact a.1, a.2⟩)
    have HZ5 : Hid (w.heap.size + 4 ≤ w5.heap.size) := by have h1 := hk5.size; have h2 := HZZ.out; show _ ≤ _; omega
    clear hN5 hc5 hq5 hk5
    have x2 : w5.cell? ⟨w.heap.size + 1, 2, none⟩ = some (.int .i64 level) := HB5.out.b6.cell 2 rfl
    have x4 : w5.cell? ⟨w.heap.size + 1, 4, none⟩ = some (.slice tA bs.length tc) := HB5.out.b6.cell 4 rfl
    have hx0 : w5.cell? ⟨w.heap.size, 0, none⟩ = some (.int .i64 (n : Int)) := by rw [← H.out.cfg.1]; exact HB5.out.b4.cell 0 rfl
    go_wp2_with fail
    clear x2 x4 hx0
    go_loopw [14, 15, 109] (fun want _ ic wr => ∃ i : Nat, i ≤ n ∧ want = .int .i64 ((memN gd.l level now i).length : Int) ∧ ic = .int .i64 i ∧ ∃ mi vsi, Hid (Bx4 w wr (modC mi) #[.int .i64 2, .int .i64 r, .int .i64 level, .int .i64 later, .slice tA bs.length tc]) ∧ Hid (MdAt wr (fun q => (col' q = 0 ∧ q < w.heap.size) ∨ w5.heap.size ≤ q) mi asks vsi (sendX room (now + delay) bs F (memN gd.l level now i) (Xs, m.used, m.s)).1 F) ∧ Hid (mi.rc = m.rc ∧ mi.delay = m.delay ∧ mi.room = m.room ∧ mi.j = m.j ∧ mi.lv = m.lv ∧ mi.used = (sendX room (now + delay) bs F (memN gd.l level now i) (Xs, m.used, m.s)).2.1 ∧ mi.s = (sendX room (now + delay) bs F (memN gd.l level now i) (Xs, m.used, m.s)).2.2 ∧ mi.fv = m.fv) ∧ Hid (Keep (fun q => q = w.heap.size) w5 wr)) (fun _ _ ic _ => n - (intOf ic).toNat)
    case atStart => exact ⟨0, by omega, rfl, rfl, m, vs, HB5, HM5, ⟨rfl, rfl, rfl, rfl, rfl, rfl, rfl, rfl⟩, Keep.refl _ _⟩
    case round =>
      obtain ⟨i, hi, rfl, rfl, mi, vsi, HBi, HMi, HEi, HKi⟩ := hrel
      by_cases hlt : i < n
      · have HIN : Hid (i < n) := hlt
        have hsz5 := HZ5.out
        have hbd : Below wr.heap.size wr wr.drew := below_drewN (Below.refl _ wr) 1
        have HBD : Hid (Bx4 w wr.drew (modC mi) #[.int .i64 2, .int .i64 r, .int .i64 level, .int .i64 later, .slice tA bs.length tc]) := HBi.out.below hbd
        have HMD := Lib.hid (HMi.out.below hbd)
        have HJM : Hid (mi.j = j ∧ mi.lv = lv) := by obtain ⟨-, -, -, e4, e5, -⟩ := HEi.out; obtain ⟨-, -, -, c4, c5⟩ := H.out.cfg; exact ⟨e4.trans c4, e5.trans c5⟩
        have HRL := Lib.hid (rlevel_any j lv mi.av asks (i : Int) now wr.drew (Reads.of_owns HMD.out.asks) (by have := HASK.out.1; omega) HASK.out.2 HJL.out)
        have i1 : (0 : Int) ≤ (i : Int) := by omega
        clear hbd hsz5
        go_wp2_with fail
        refine wp_region_heldT (S := (fun W' => Keep (fun _ => False) wr.drew W')) 13 (by kernel_rfl) (Keep.refl _ _) (fun hHeld => ?_)
        refine heldT_free (i := 0) (oi := { dst := some 112, op := Op.fieldAddr 59 (Operand.tmp 4) 1, type := 0, pos := "law.go:117", after := #[], guard := none }) (v := ?_) rfl (by kernel_rfl) (by kernel_rfl) (by kernel_rfl) (by kernel_rfl) (fun _ _ _ h => h) (Or.inl ⟨by rfl, ?_⟩) hHeld ?_
        rotate_left 1
        · intro wS; go_simp <;> with_reducible rfl
        (try simp only [Act.put, List.setIfInBounds_toArray, List.set_cons_zero, List.set_cons_succ])
        refine heldT_takeC [10] (i := 1) (oi := { dst := some 113, op := Op.load 56 (Operand.tmp 112), type := 56, pos := "law.go:117", after := #[{ on := 0, ground := Ground.data }], guard := none }) (v := ?_) rfl (by kernel_rfl) (by kernel_rfl) (by kernel_rfl) (by kernel_rfl) (fun _ _ _ h => h) (Or.inl ⟨by rfl, ?_⟩) hHeld ?_
        rotate_left 1
        · intro wS hSw; have hq := HBD.out.b4.keep hSw (fun h => h); have q : wS.cell? ⟨w.heap.size, 5, none⟩ = some mi.av := hq.cell 5 rfl; clear hq hSw; go_simp <;> with_reducible rfl
        (try simp only [Act.put, List.setIfInBounds_toArray, List.set_cons_zero, List.set_cons_succ])
        refine heldT_free (i := 2) (oi := { dst := some 114, op := Op.move (Operand.tmp 15), type := 3, pos := "law.go:117", after := #[], guard := none }) (v := ?_) rfl (by kernel_rfl) (by kernel_rfl) (by kernel_rfl) (by kernel_rfl) (fun _ _ _ h => h) (Or.inl ⟨by rfl, ?_⟩) hHeld ?_
        rotate_left 1
        · intro wS; go_simp <;> with_reducible rfl
        (try simp only [Act.put, List.setIfInBounds_toArray, List.set_cons_zero, List.set_cons_succ])
        refine heldT_free (i := 3) (oi := { dst := some 115, op := Op.fieldAddr 59 (Operand.tmp 4) 0, type := 0, pos := "law.go:117", after := #[], guard := none }) (v := ?_) rfl (by kernel_rfl) (by kernel_rfl) (by kernel_rfl) (by kernel_rfl) (fun _ _ _ h => h) (Or.inl ⟨by rfl, ?_⟩) hHeld ?_
        rotate_left 1
        · intro wS; go_simp <;> with_reducible rfl
        (try simp only [Act.put, List.setIfInBounds_toArray, List.set_cons_zero, List.set_cons_succ])
        refine heldT_free (i := 4) (oi := { dst := some 116, op := Op.fieldAddr 30 (Operand.tmp 115) 3, type := 0, pos := "law.go:117", after := #[{ on := 3, ground := Ground.data }], guard := none }) (v := ?_) rfl (by kernel_rfl) (by kernel_rfl) (by kernel_rfl) (by kernel_rfl) (fun _ _ _ h => h) (Or.inl ⟨by rfl, ?_⟩) hHeld ?_
        rotate_left 1
        · intro wS; go_simp <;> with_reducible rfl
        (try simp only [Act.put, List.setIfInBounds_toArray, List.set_cons_zero, List.set_cons_succ])
        refine heldT_takeC [10] (i := 5) (oi := { dst := some 117, op := Op.load 3 (Operand.tmp 116), type := 3, pos := "law.go:117", after := #[{ on := 4, ground := Ground.data }], guard := none }) (v := ?_) rfl (by kernel_rfl) (by kernel_rfl) (by kernel_rfl) (by kernel_rfl) (fun _ _ _ h => h) (Or.inl ⟨by rfl, ?_⟩) hHeld ?_
        rotate_left 1
        · intro wS hSw; have hq := HBD.out.b4.keep hSw (fun h => h); have q : wS.cell? ⟨w.heap.size, 3, none⟩ = some (.int .i64 j) := (by rw [← HJM.out.1]; exact hq.cell 3 rfl); clear hq hSw; go_simp <;> with_reducible rfl
        (try simp only [Act.put, List.setIfInBounds_toArray, List.set_cons_zero, List.set_cons_succ])
        refine heldT_free (i := 6) (oi := { dst := some 118, op := Op.fieldAddr 59 (Operand.tmp 4) 0, type := 0, pos := "law.go:117", after := #[], guard := none }) (v := ?_) rfl (by kernel_rfl) (by kernel_rfl) (by kernel_rfl) (by kernel_rfl) (fun _ _ _ h => h) (Or.inl ⟨by rfl, ?_⟩) hHeld ?_
        rotate_left 1
        · intro wS; go_simp <;> with_reducible rfl
        (try simp only [Act.put, List.setIfInBounds_toArray, List.set_cons_zero, List.set_cons_succ])
        refine heldT_free (i := 7) (oi := { dst := some 119, op := Op.fieldAddr 30 (Operand.tmp 118) 4, type := 0, pos := "law.go:117", after := #[{ on := 6, ground := Ground.data }], guard := none }) (v := ?_) rfl (by kernel_rfl) (by kernel_rfl) (by kernel_rfl) (by kernel_rfl) (fun _ _ _ h => h) (Or.inl ⟨by rfl, ?_⟩) hHeld ?_
        rotate_left 1
        · intro wS; go_simp <;> with_reducible rfl
        (try simp only [Act.put, List.setIfInBounds_toArray, List.set_cons_zero, List.set_cons_succ])
        refine heldT_takeC [10] (i := 8) (oi := { dst := some 120, op := Op.load 3 (Operand.tmp 119), type := 3, pos := "law.go:117", after := #[{ on := 7, ground := Ground.data }], guard := none }) (v := ?_) rfl (by kernel_rfl) (by kernel_rfl) (by kernel_rfl) (by kernel_rfl) (fun _ _ _ h => h) (Or.inl ⟨by rfl, ?_⟩) hHeld ?_
        rotate_left 1
        · intro wS hSw; have hq := HBD.out.b4.keep hSw (fun h => h); have q : wS.cell? ⟨w.heap.size, 4, none⟩ = some (.int .i64 lv) := (by rw [← HJM.out.2]; exact hq.cell 4 rfl); clear hq hSw; go_simp <;> with_reducible rfl
        (try simp only [Act.put, List.setIfInBounds_toArray, List.set_cons_zero, List.set_cons_succ])
        refine heldT_free (i := 9) (oi := { dst := some 121, op := Op.move (Operand.tmp 3), type := 3, pos := "law.go:117", after := #[], guard := none }) (v := ?_) rfl (by kernel_rfl) (by kernel_rfl) (by kernel_rfl) (by kernel_rfl) (fun _ _ _ h => h) (Or.inl ⟨by rfl, ?_⟩) hHeld ?_
        rotate_left 1
        · intro wS; go_simp <;> with_reducible rfl
        (try simp only [Act.put, List.setIfInBounds_toArray, List.set_cons_zero, List.set_cons_succ])
        refine heldT_free (i := 11) (oi := { dst := some 123, op := Op.fieldAddr 61 (Operand.tmp 6) 2, type := 0, pos := "law.go:117", after := #[], guard := none }) (v := ?_) rfl (by kernel_rfl) (by kernel_rfl) (by kernel_rfl) (by kernel_rfl) (fun _ _ _ h => h) (Or.inl ⟨by rfl, ?_⟩) hHeld ?_
        rotate_left 1
        · intro wS; go_simp <;> with_reducible rfl
        (try simp only [Act.put, List.setIfInBounds_toArray, List.set_cons_zero, List.set_cons_succ])
        refine heldT_takeC [] (i := 12) (oi := { dst := some 124, op := Op.load 3 (Operand.tmp 123), type := 3, pos := "law.go:117", after := #[{ on := 11, ground := Ground.data }], guard := none }) (v := ?_) rfl (by kernel_rfl) (by kernel_rfl) (by kernel_rfl) (by kernel_rfl) (fun _ _ _ h => h) (Or.inl ⟨by rfl, ?_⟩) hHeld ?_
        rotate_left 1
        · intro wS hSw; have hq := HBD.out.b6.keep hSw (fun h => h); have q : wS.cell? ⟨w.heap.size + 1, 2, none⟩ = some (.int .i64 level) := hq.cell 2 rfl; clear hq hSw; go_simp <;> with_reducible rfl
        (try simp only [Act.put, List.setIfInBounds_toArray, List.set_cons_zero, List.set_cons_succ])
        refine heldT_one (j := 10) (by kernel_rfl) (by kernel_rfl) rfl (fun K hK => ?_)
        go_simp
        refine HRL.out.mono ?_
        rintro e w9 ⟨rfl, hb9⟩
        have HB9 := Lib.hid hb9
        have HN9 : Hid (Keep (fun _ => False) wr.drew w9) := Lib.hid (Keep.ofBelowAll hb9)
        clear hb9
        go_wp2_with fail
        refine hK.out _ _ HN9.out (fun hHeld => ?_)
        clear hK K
        (try simp only [Act.put, List.setIfInBounds_toArray, List.set_cons_zero, List.set_cons_succ])
        refine heldT_tail (by kernel_rfl) rfl rfl (by kernel_rfl) ?_
        (try simp only [List.drop_succ_cons, List.drop_zero])
        go_wp2_with fail
        refine NoPanic.normal ?_
        have HBW : Hid (Bx4 w w9 (modC mi) #[.int .i64 2, .int .i64 r, .int .i64 level, .int .i64 later, .slice tA bs.length tc]) := HBD.out.keep HN9.out (fun _ _ _ h => h)
        have HMW := Lib.hid (HMD.out.keep HN9.out (fun _ _ h => h))
        have HKW : Hid (Keep (fun q => q = w.heap.size) w5 w9) := HKi.out.drew.trans HN9.out (fun _ _ h => h.elim)
        have HSTEP := Lib.hid (HMEM.out i HIN.out)
        clear HBD HMD HRL HN9 HBi HMi HKi HB9 HJM
        by_cases hge : level ≤ (rfold j lv (i : Int) asks).at now
        · have HSP : Hid (memN gd.l level now (i + 1) = memN gd.l level now i ++ [i]) := by show _ = _; rw [HSTEP.out, if_pos hge]
          obtain ⟨Xi, hXi⟩ : ∃ Xi, (sendX room (now + delay) bs F (memN gd.l level now i) (Xs, m.used, m.s)).1[i]? = some Xi := ⟨_, List.getElem?_eq_getElem (by rw [sendX_len]; have := HXL.out; show i < Xs.length; have := HIN.out; omega)⟩
          have hbds := sendX_bd (u0 := m.used) (room := room) (due := now + delay) (bs := bs) (F := F) HSTB.out HXB.out (memN gd.l level now i) (fun q hq => by have h1 := memN_lt gd.l level now i q hq; have := HXL.out; have := HIN.out; omega)
          have hml := memN_len gd.l level now i
          obtain ⟨b1, b2, b3⟩ := hbds
          obtain ⟨e1, e2, e3, e4, e5, e6, e7, -⟩ := HEi.out
          obtain ⟨cc1, cc2, cc3, cc4, cc5⟩ := H.out.cfg
          have hxi := b3 Xi (List.mem_of_getElem? hXi)
          have hin := HIN.out
          have hbn := HBND.out
          have hmg := mgive_any mi asks vsi (sendX room (now + delay) bs F (memN gd.l level now i) (Xs, m.used, m.s)).1 F (fun q => (col' q = 0 ∧ q < w.heap.size) ∨ w5.heap.size ≤ q) i Xi now bs w9 HMW.out hXi (by omega) HBT.out (by have := HG2.out; omega) (by rw [e7]; exact b1.mono (by omega)) (by omega) (by rw [e6]; omega) (by rw [HMW.out.len, sendX_len]; have := HXL.out; show Xs.length ≤ 1000; omega) (by rw [e2, cc2]; exact hbn.2.2.2.2) (by omega)
          rw [e3, cc3, e2, cc2, e6, e7] at hmg
          have HMG := Lib.hid hmg
          have HXI := Lib.hid hXi
          have HX9 : Hid (Reads w9 1 (.slice tA bs.length tc) bs.length (u8s bs)) := HX5.out.keep HKW.out (fun q hq hp e => by have := (HXO.out q hq hp).2; omega)
          have hcv : (convert 23 9 (.slice tA bs.length tc)).run Try.prog w9 = .ok (.string (strOfNums bs)) w9 := conv_ints HX9.out
          have x4 : w9.cell? ⟨w.heap.size + 1, 4, none⟩ = some (.slice tA bs.length tc) := HBW.out.b6.cell 4 rfl
          clear hXi b1 b2 b3 e1 e2 e3 e4 e5 e6 e7 cc1 cc2 cc3 cc4 cc5 hxi hin hbn hmg
          go_wp2_with (refine wpList_loadM rfl _ rfl _ rfl mi ?_ ?_; exact HBW.out.b4)
          clear x4 hcv
          refine HMG.out.mono ?_
          rintro e w10 ⟨m2, rfl, mg⟩
          have HMGR := Lib.hid mg
          have HB10 := Lib.hid (HBW.out.below mg.bel)
          have HK10 : Hid (Keep (fun q => q = w.heap.size) w5 w10) := HKW.out.trans (Keep.none mg.bel) (fun _ _ h => h.elim)
          have HMO2 : Hid (modOne m2) := by obtain ⟨vs', hM6⟩ := mg.ex; exact hM6.modOne
          have HS9 : Hid (w5.heap.size ≤ w9.heap.size) := HKW.out.size
          clear mg
          go_wp2_with (refine wpList_storeM rfl _ _ rfl _ rfl m2 mi HMO2.out rfl ?_ ?_; exact HB10.out.b4; rintro wS hbS hkS)
          have HBN : Hid (Bx4 w wS (modC m2) #[.int .i64 2, .int .i64 r, .int .i64 level, .int .i64 later, .slice tA bs.length tc]) := ⟨hbS.out, HB10.out.b6.keep hkS.out (by omega), HB10.out.b8.keep hkS.out (by omega), HB10.out.b9.keep hkS.out (by omega)⟩
          have HKN : Hid (Keep (fun q => q = w.heap.size) w5 wS) := HK10.out.trans hkS.out (fun _ _ h => h)
          obtain ⟨vs2, hM2⟩ := HMGR.out.ex
          have HMN : Hid (MdAt wS (fun q => (col' q = 0 ∧ q < w.heap.size) ∨ w5.heap.size ≤ q) m2 asks vs2 (sendX room (now + delay) bs F (memN gd.l level now (i + 1)) (Xs, m.used, m.s)).1 F) := by
            have h1 := (hM2.mono (G' := (fun q => (col' q = 0 ∧ q < w.heap.size) ∨ w5.heap.size ≤ q)) (fun q a _ => a.elim id (fun a => .inr (by have := HS9.out; omega)))).keep hkS.out (fun q a e => by have := HZ5.out; rcases a with a | a <;> omega)
            rw [HSP.out, sendX_snoc]
            unfold sendX1
            rw [List.getD_eq_getElem?_getD, HXI.out]
            exact h1
          have HEN : Hid (m2.rc = m.rc ∧ m2.delay = m.delay ∧ m2.room = m.room ∧ m2.j = m.j ∧ m2.lv = m.lv ∧ m2.used = (sendX room (now + delay) bs F (memN gd.l level now (i + 1)) (Xs, m.used, m.s)).2.1 ∧ m2.s = (sendX room (now + delay) bs F (memN gd.l level now (i + 1)) (Xs, m.used, m.s)).2.2 ∧ m2.fv = m.fv) := by
            obtain ⟨a1, a2, a3, a4, a5, -, a7⟩ := HMGR.out.same
            obtain ⟨e1, e2, e3, e4, e5, e6, e7, e8⟩ := HEi.out
            refine ⟨a1.trans e1, a2.trans e2, a3.trans e3, a4.trans e4, a5.trans e5, ?_, ?_, a7.trans e8⟩
            · rw [HMGR.out.used, e6, HSP.out, sendX_snoc]; rfl
            · rw [HMGR.out.st, HSP.out, sendX_snoc]
              unfold sendX1
              rw [List.getD_eq_getElem?_getD, HXI.out]
              rfl
          have HCN : Hid ((memN gd.l level now (i + 1)).length = (memN gd.l level now i).length + 1) := by show _ = _; rw [HSP.out, List.length_append]; rfl
          have hin := HIN.out
          clear hM2 HMGR HB10 HK10 HMO2 HS9 HXI HSP HMW HKW HBW HSTEP HMG HX9 hbS hkS
          go_roundw
          case rel => exact ⟨i + 1, by omega, (by rw [HCN.out]; go_num), by go_num, m2, vs2, HBN, HMN, HEN, HKN⟩
          case measure => simp [intOf]; omega
        · have HSP : Hid (memN gd.l level now (i + 1) = memN gd.l level now i) := by show _ = _; rw [HSTEP.out, if_neg hge]
          have hin := HIN.out
          go_wp2_with fail
          go_roundw
          case rel => exact ⟨i + 1, by omega, by rw [HSP.out], by go_num, mi, vsi, HBW, by rw [HSP.out]; exact HMW, by rw [HSP.out]; exact HEi, HKW⟩
          case measure => simp [intOf]; omega
      · obtain rfl : i = n := by omega
        rw [← HCNT.out]
        have HMOI := Lib.hid HMi.out.modOne
        go_wp2_with (first | (refine wpList_loadM rfl _ rfl _ rfl mi ?_ ?_; exact HBi.out.b4) | (refine wpList_storeM rfl _ _ rfl _ rfl mi md0 HMOI.out rfl ?_ ?_; exact HBi.out.b8; rintro wS hbS hkS; have HB9 := Lib.hid (HBi.out.b9.keep hkS.out (by omega)); have y9 := HB9.out.cell 0 rfl; have g9 := HB9.out.frozen 0))
        obtain ⟨e0, e1, e2, e3, e4, e5, e6, e7, e8, e9, e10, e11, e12, e13, e14⟩ := mod15 hbS.out
        have HSC : Hid (Keep (fun q => q = w.heap.size + 1 + 1 + 1) wS (wS.setCell ⟨w.heap.size + 1 + 1 + 1, 0, none⟩ (.bool true))) := (Keep.refl (fun q => q = w.heap.size + 1 + 1 + 1) wS).setCell (p := ⟨w.heap.size + 1 + 1 + 1, 0, none⟩) (.inl rfl) _
        refine bodyPost_ret (v := .tuple #[.agg (modC mi), .bool true]) (by simp [results, Try.results19, go_sem, modC, e0, e1, e2, e3, e4, e5, e6, e7, e8, e9, e10, e11, e12, e13, e14, y9]) rfl ⟨mi, rfl, ?_⟩
        have hzz := HZZ.out
        exact send_end H.out HALL.out HKK.out HT.out HBL.out (by omega) HG2.out HN5.out HC5.out HQ5.out HK5.out HMi.out HEi.out HKi.out ((hkS.out.mono (fun q _ e => by omega)).trans HSC.out (fun q _ e => by omega))
end Go.Proofs.Ytlodiibmofeikaa
