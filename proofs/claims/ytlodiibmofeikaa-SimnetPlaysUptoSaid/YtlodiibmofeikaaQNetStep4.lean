/- simnet: the law's step of kind 4. -/
import Derived.Test.YtlodiibmofeikaaQNetStepB
namespace Go.Proofs.Ytlodiibmofeikaa
open Go.RowKit Go.Shelf
set_option linter.unusedVariables false
set_option linter.unusedSimpArgs false
set_option maxRecDepth 100000 in
set_option maxHeartbeats 4000000 in
theorem step_4y (w : World) {col : Nat → Nat} {nb n : Nat} {delay room j lv : Int} {F : List FD} {m : MD} {k : Nat} {t : Int} (h : NM w col nb n delay room j lv F m k t) (hk : k < 1000) (now : Int) (ht : t ≤ now ∧ now ≤ t + 100) (r level later : Int) (tA : Option Addr) (tn tc : Nat) (bs : List Int) (hx : Reads w 1 (.slice tA tn tc) tn (u8s bs)) (hbs : bs.length = tn) (hbt : BtsI bs) (hxo : ∀ g, (Value.slice tA tn tc).ownBlock = some g → 0 < tn → col g = 0 ∧ g < w.heap.size) (g : 0 ≤ r) (g' : r < (n : Int)) :
    Calls Try.prog 19 #[.agg (modC m), .pointer (some ⟨nb, 0, none⟩), .agg #[.int .i64 4, .int .i64 r, .int .i64 level, .int .i64 later, .slice tA tn tc], .int .i64 now] w fun e w' => ∃ m', e = .returned (.tuple #[.agg (modC m'), .bool true]) ∧ SR w w' col nb n delay room j lv F m' (k + 1) now := by
  have H := Lib.hid h
  have hrc := h.cfg.1
  obtain ⟨hb4, hb6, hb8, hb9, hbl, hzz⟩ := boxes4n w (modC m) #[.int .i64 4, .int .i64 r, .int .i64 level, .int .i64 later, .slice tA tn tc] (modC md0) #[.bool false] 59 61 59 4
  have hx0 : ((((w.alloc (.cells (modC m) 59)).alloc (.cells #[.int .i64 4, .int .i64 r, .int .i64 level, .int .i64 later, .slice tA tn tc] 61)).alloc (.cells (modC md0) 59)).alloc (.cells #[.bool false] 4)).cell? ⟨w.heap.size, 0, none⟩ = some (.int .i64 (n : Int)) := by rw [← hrc]; exact hb4.cell 0 rfl
  obtain ⟨x0, x1, x2, x3, x4⟩ := blk5' hb6
  have HB : Hid (Bx4 w ((((w.alloc (.cells (modC m) 59)).alloc (.cells #[.int .i64 4, .int .i64 r, .int .i64 level, .int .i64 later, .slice tA tn tc] 61)).alloc (.cells (modC md0) 59)).alloc (.cells #[.bool false] 4)) (modC m) #[.int .i64 4, .int .i64 r, .int .i64 level, .int .i64 later, .slice tA tn tc]) := ⟨hb4, hb6, hb8, hb9⟩
  have HBL := Lib.hid hbl
  have HZZ : Hid (((((w.alloc (.cells (modC m) 59)).alloc (.cells #[.int .i64 4, .int .i64 r, .int .i64 level, .int .i64 later, .slice tA tn tc] 61)).alloc (.cells (modC md0) 59)).alloc (.cells #[.bool false] 4)).heap.size = w.heap.size + 1 + 1 + 1 + 1) := hzz
  have H1 := Lib.hid (h.below hbl)
  have HMO : Hid (modOne m) := by
    obtain ⟨⟨gd, pv, P, fv, asks, vs, Xs, -, hM, -⟩, -⟩ := h
    exact hM.modOne
  have hn8 := h.cf.n
  have HT := Lib.hid ht
  have HKK := Lib.hid hk
  have HX := Lib.hid (hx.below hbl)
  have HBS := Lib.hid hbs
  have HBT := Lib.hid hbt
  have HXO := Lib.hid hxo
  clear h hrc hb4 hb6 hb8 hb9 hbl hzz ht hk hx hbs hbt hxo
  obtain ⟨rn, hrn⟩ := Int.eq_ofNat_of_zero_le g
  have HRN : Hid (r = (rn : Int)) := hrn
  have HRL : Hid (rn < n) := by show _ < _; omega
  clear hrn
  go_enter Try.func19, Try.ntmps19
  go_wp2_with (first | (refine wpList_boxM rfl _ rfl m rfl ?_; rintro w1 hw1 - - -; have hw1' := hw1.out; subst hw1'; clear hw1) | (refine wpList_allocM rfl rfl ?_; rintro w2 hw2 - - -; have hw2' := hw2.out; subst hw2'; clear hw2) | (refine wpList_loadM rfl _ rfl _ rfl m ?_ ?_; exact HB.out.b4))
  generalize ((((w.alloc (.cells (modC m) 59)).alloc (.cells #[.int .i64 4, .int .i64 r, .int .i64 level, .int .i64 later, .slice tA tn tc] 61)).alloc (.cells (modC md0) 59)).alloc (.cells #[.bool false] 4)) = w1 at *
  obtain ⟨gd, pv, P, fv, asks, vs, Xs, hN0, hM0, hpi, hj, hlv, hPl, hXl, hS, hAt⟩ := H.out.ex
  have HALL : Hid (NetAt w col nb gd delay room pv P fv F m.used m.s ∧ MdAt w (fun q => col q = 0) m asks vs Xs F ∧ PInv n j lv gd.l asks k ∧ gd.j = j ∧ gd.lv = lv ∧ P.length = n + 1 ∧ Xs.length = n + 1 ∧ Same room P Xs ∧ (∀ a ∈ asks, a.now ≤ t)) := ⟨hN0, hM0, hpi, hj, hlv, hPl, hXl, hS, hAt⟩
  have hgl : gd.l.length = n := hpi.len
  have hs1 := HBL.out.size
  obtain ⟨pd, hpd⟩ : ∃ pd, P[rn]? = some pd := ⟨_, List.getElem?_eq_getElem (by rw [hPl]; have := HRL.out; omega)⟩
  obtain ⟨X, hX⟩ : ∃ X, Xs[rn]? = some X := ⟨_, List.getElem?_eq_getElem (by rw [hXl]; have := HRL.out; omega)⟩
  obtain ⟨hrel, hroom⟩ := hS rn pd X hpd hX
  have hcf := H.out.cf
  have hN2 : NetAt w1 (colB col w.heap.size w1.heap.size (6 + P.length)) nb gd delay room pv P fv F m.used m.s := (hN0.below HBL.out).recol (fun q h0 _ => by
    have := hN0.lt h0
    unfold colB
    rw [if_neg (by omega)]) (fun x hx => by
    unfold colB
    rw [if_neg (by omega)]
    exact hN0.top x (by omega))
  have hM2 : MdAt w1 (fun q => colB col w.heap.size w1.heap.size (6 + P.length) q = 0) m asks vs Xs F := (hM0.mono (G' := fun q => colB col w.heap.size w1.heap.size (6 + P.length) q = 0) (fun q h0 hq => by
    have h0 : col q = 0 := h0
    show colB _ _ _ _ q = 0
    unfold colB
    rw [if_neg (by omega)]
    exact h0)).below HBL.out
  have hvl : vs.length ≤ 1000 := by rw [hM0.len, hXl]; omega
  have HPD := Lib.hid hpd
  have HROOM := Lib.hid hroom
  clear x0 x1 x2 x3 x4 hx0
  have hmt := mtake_in m asks vs Xs F rn X now w1 hN2 pd hpd hM2 hX hrel (by have := hcf.room; omega) hvl (by omega) (by rw [H.out.cfg.1, hgl]) (by rw [hgl]; exact HRL.out)
  rw [← HRN.out] at hmt
  have HMT := Lib.hid hmt
  clear hN0 hM0 hpi hj hlv hPl hXl hS hAt hgl hs1 hpd hX hrel hroom hcf hN2 hM2 hvl hmt
  refine HMT.out.mono ?_
  rintro e w5 ⟨m', rfl, tk⟩
  have HTK := Lib.hid tk
  have HB5 : Hid (Bx4 w w5 (modC m) #[.int .i64 4, .int .i64 r, .int .i64 level, .int .i64 later, .slice tA tn tc]) := HB.out.keep tk.kp (fun q hq hq2 e => by
    have e : colB col w.heap.size w1.heap.size (6 + P.length) q = 6 + rn := e
    have := HZZ.out
    have hpl : rn < P.length := (List.getElem?_eq_some_iff.1 HPD.out).1
    unfold colB at e
    rw [if_pos (by omega)] at e
    omega)
  have HMO5 : Hid (modOne m') := by
    obtain ⟨v', X', vs', -, hM5, -⟩ := tk.ex
    exact hM5.modOne
  clear tk
  go_wp2_with ((refine wpList_storeM rfl _ _ rfl _ rfl m' md0 HMO5.out rfl ?_ ?_; exact HB5.out.b8; rintro wS hbS hkS; have HB9 := Lib.hid (HB5.out.b9.keep hkS.out (by omega)); have y9 := HB9.out.cell 0 rfl; have g9 := HB9.out.frozen 0))
  obtain ⟨e0, e1, e2, e3, e4, e5, e6, e7, e8, e9, e10, e11, e12, e13, e14⟩ := mod15 hbS.out
  have HSC : Hid (Keep (fun q => q = w.heap.size + 1 + 1 + 1) wS (wS.setCell ⟨w.heap.size + 1 + 1 + 1, 0, none⟩ (.bool true))) := (Keep.refl (fun q => q = w.heap.size + 1 + 1 + 1) wS).setCell (p := ⟨w.heap.size + 1 + 1 + 1, 0, none⟩) (.inl rfl) _
  refine bodyPost_ret (v := .tuple #[.agg (modC m'), .bool true]) (by simp [results, Try.results19, go_sem, modC, e0, e1, e2, e3, e4, e5, e6, e7, e8, e9, e10, e11, e12, e13, e14, y9]) rfl ⟨m', rfl, ?_⟩
  have hzz := HZZ.out
  exact take_end H.out HALL.out HKK.out HT.out HBL.out HPD.out HROOM.out HTK.out ((hkS.out.mono (fun q _ e => by omega)).trans HSC.out (fun q _ e => by omega))
end Go.Proofs.Ytlodiibmofeikaa
