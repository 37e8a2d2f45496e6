/- simnet: the law's step of kind 3. -/
import Derived.Test.YtlodiibmofeikaaQNetStepD
namespace Go.Proofs.Ytlodiibmofeikaa
open Go.RowKit Go.Shelf
set_option linter.unusedVariables false
set_option linter.unusedSimpArgs false
set_option maxRecDepth 100000 in
set_option maxHeartbeats 4000000 in
theorem step_3y (w : World) {col : Nat → Nat} {nb n : Nat} {delay room j lv : Int} {F : List FD} {m : MD} {k : Nat} {t : Int} (h : NM w col nb n delay room j lv F m k t) (hk : k < 1000) (now : Int) (ht : t ≤ now ∧ now ≤ t + 100) (r level later : Int) (tA : Option Addr) (tn tc : Nat) (bs : List Int) (hx : Reads w 1 (.slice tA tn tc) tn (u8s bs)) (hbs : bs.length = tn) (hbt : BtsI bs) (hxo : ∀ g, (Value.slice tA tn tc).ownBlock = some g → 0 < tn → col g = 0 ∧ g < w.heap.size) (g : 0 ≤ r) (g' : r < (n : Int)) (g2 : tn ≤ 320) :
    Calls Try.prog 19 #[.agg (modC m), .pointer (some ⟨nb, 0, none⟩), .agg #[.int .i64 3, .int .i64 r, .int .i64 level, .int .i64 later, .slice tA tn tc], .int .i64 now] w fun e w' => ∃ m', e = .returned (.tuple #[.agg (modC m'), .bool true]) ∧ SR w w' col nb n delay room j lv F m' (k + 1) now := by
  subst hbs
  have H := Lib.hid h
  have hrc := h.cfg.1
  obtain ⟨hb4, hb6, hb8, hb9, hbl, hzz⟩ := boxes4n w (modC m) #[.int .i64 3, .int .i64 r, .int .i64 level, .int .i64 later, .slice tA bs.length tc] (modC md0) #[.bool false] 59 61 59 4
  have hx0 : ((((w.alloc (.cells (modC m) 59)).alloc (.cells #[.int .i64 3, .int .i64 r, .int .i64 level, .int .i64 later, .slice tA bs.length tc] 61)).alloc (.cells (modC md0) 59)).alloc (.cells #[.bool false] 4)).cell? ⟨w.heap.size, 0, none⟩ = some (.int .i64 (n : Int)) := by rw [← hrc]; exact hb4.cell 0 rfl
  obtain ⟨x0, x1, x2, x3, x4⟩ := blk5' hb6
  have HB : Hid (Bx4 w ((((w.alloc (.cells (modC m) 59)).alloc (.cells #[.int .i64 3, .int .i64 r, .int .i64 level, .int .i64 later, .slice tA bs.length tc] 61)).alloc (.cells (modC md0) 59)).alloc (.cells #[.bool false] 4)) (modC m) #[.int .i64 3, .int .i64 r, .int .i64 level, .int .i64 later, .slice tA bs.length tc]) := ⟨hb4, hb6, hb8, hb9⟩
  have HBL := Lib.hid hbl
  have HZZ : Hid (((((w.alloc (.cells (modC m) 59)).alloc (.cells #[.int .i64 3, .int .i64 r, .int .i64 level, .int .i64 later, .slice tA bs.length tc] 61)).alloc (.cells (modC md0) 59)).alloc (.cells #[.bool false] 4)).heap.size = w.heap.size + 1 + 1 + 1 + 1) := hzz
  have H1 := Lib.hid (h.below hbl)
  have HMO : Hid (modOne m) := by
    obtain ⟨⟨gd, pv, P, fv, asks, vs, Xs, -, hM, -⟩, -⟩ := h
    exact hM.modOne
  have hn8 := h.cf.n
  have HT := Lib.hid ht
  have HKK := Lib.hid hk
  have HX := Lib.hid (hx.below hbl)
  have HBT := Lib.hid hbt
  have HXO := Lib.hid hxo
  clear h hrc hb4 hb6 hb8 hb9 hbl hzz ht hk hx hbt hxo
  go_enter Try.func19, Try.ntmps19
  go_wp2_with (first | (refine wpList_boxM rfl _ rfl m rfl ?_; rintro w1 hw1 - - -; have hw1' := hw1.out; subst hw1'; clear hw1) | (refine wpList_allocM rfl rfl ?_; rintro w2 hw2 - - -; have hw2' := hw2.out; subst hw2'; clear hw2))
  generalize ((((w.alloc (.cells (modC m) 59)).alloc (.cells #[.int .i64 3, .int .i64 r, .int .i64 level, .int .i64 later, .slice tA bs.length tc] 61)).alloc (.cells (modC md0) 59)).alloc (.cells #[.bool false] 4)) = w1 at *
  obtain ⟨gd, pv, P, fv, asks, vs, Xs, hN0, hM0, hpi, hj, hlv, hPl, hXl, hS, hAt⟩ := H.out.ex
  have HALL : Hid (NetAt w col nb gd delay room pv P fv F m.used m.s ∧ MdAt w (fun q => col q = 0) m asks vs Xs F ∧ PInv n j lv gd.l asks k ∧ gd.j = j ∧ gd.lv = lv ∧ P.length = n + 1 ∧ Xs.length = n + 1 ∧ Same room P Xs ∧ (∀ a ∈ asks, a.now ≤ t)) := ⟨hN0, hM0, hpi, hj, hlv, hPl, hXl, hS, hAt⟩
  have hgl : gd.l.length = n := hpi.len
  have hs1 := HBL.out.size
  have hcf := H.out.cf
  have htb := H.out.tb
  have hkb := H.out.kb
  have hkk := HKK.out
  have hfl := H.out.fl
  have hus := H.out.used
  have ht2 := HT.out
  obtain ⟨pd, hpd⟩ : ∃ pd, P[n]? = some pd := ⟨_, List.getElem?_eq_getElem (by rw [hPl]; omega)⟩
  obtain ⟨X, hX⟩ : ∃ X, Xs[n]? = some X := ⟨_, List.getElem?_eq_getElem (by rw [hXl]; omega)⟩
  obtain ⟨hrel, hroom⟩ := hS n pd X hpd hX
  have hxl : X.length ≤ 256 := by have h1 := congrArg List.length hrel; rw [List.length_map, sorted_len] at h1; have := hcf.room; omega
  have hro := hcf.room
  have hde := hcf.delay
  have hup := up_yes (hN0.below HBL.out) r now pd (by rw [hgl]; exact hpd) (decide_eq_true (by omega)) (by omega) tA tc bs g2 HBT.out HX.out (fun q hq hp => (HXO.out q hq hp).1) (by omega) hroom (H.out.st.mono (by omega)) (by omega) (by omega) hde (by omega)
  rw [hgl] at hup
  have HUP := Lib.hid hup
  have HPD := Lib.hid hpd
  have HXX := Lib.hid hX
  have hvl : vs.length ≤ 1000 := by rw [hM0.len, hXl]; omega
  have hmg : ∀ (c2 : Nat → Nat) W, MdAt W (fun q => c2 q = 0 ∧ q < w.heap.size) m asks vs Xs F → Calls Try.prog 35 #[.agg (modC m), .int .i64 (n : Int), .int .i64 now, .string (strOfNums bs)] W fun e w' => ∃ m', e = .returned (.agg (modC m')) ∧ MgR W w' (fun q => c2 q = 0 ∧ q < w.heap.size) m m' asks Xs F n (giveX m.room (now + m.delay) bs (fateOf F m.used) X m.s).1 (giveX m.room (now + m.delay) bs (fateOf F m.used) X m.s).2 :=
    fun c2 W hW => mgive_any m asks vs Xs F _ n X now bs W hW hX (by omega) HBT.out (by omega) (H.out.st.mono (by omega)) (by omega) (by omega) hvl (by rw [H.out.cfg.2.1]; exact hde) (by omega)
  have HMG := Lib.hid hmg
  have HM0 := Lib.hid hM0
  have hlt : ∀ q, col q ≠ 0 → q < w.heap.size := fun q hq => hN0.lt hq
  have HLT := Lib.hid hlt
  clear hN0 hM0 hpi hj hlv hPl hXl hS hAt hgl hs1 hcf htb hkb hkk hfl hus ht2 hpd hX hrel hroom hxl hro hde hup hvl hmg x0 x1 x2 x3 x4 hx0 hlt
  refine HUP.out.mono ?_
  rintro e w5 ⟨rfl, hnr⟩
  obtain ⟨⟨col', v', l', s', hN5, hc5, hg5⟩, hk5⟩ := hnr
  have HN5 := Lib.hid hN5
  have HC5 := Lib.hid hc5
  have HG5 := Lib.hid hg5
  have HK5 := Lib.hid hk5
  have HB5 : Hid (Bx4 w w5 (modC m) #[.int .i64 3, .int .i64 r, .int .i64 level, .int .i64 later, .slice tA bs.length tc]) := HB.out.keep hk5 (fun q hq _ e => by have := HLT.out q e.1; omega)
  have HX5 : Hid (Reads w5 1 (.slice tA bs.length tc) bs.length (u8s bs)) := HX.out.keep hk5 (fun q hq hp e => e.1 (HXO.out q hq hp).1)
  have HM5 : Hid (MdAt w5 (fun q => col' q = 0 ∧ q < w.heap.size) m asks vs Xs F) := ((HM0.out.mono (G' := fun q => col q = 0 ∧ q < w.heap.size) (fun q a b => ⟨a, b⟩)).below HBL.out |>.keep hk5 (fun q a e => e.1 a.1)).mono (fun q a _ => ⟨by rw [hc5 q (by have := HBL.out.size; omega)]; exact a.1, a.2⟩)
  have hcv : (convert 23 9 (.slice tA bs.length tc)).run Try.prog w5 = .ok (.string (strOfNums bs)) w5 := conv_ints HX5.out
  clear hN5 hc5 hg5 hk5
  have x4 : w5.cell? ⟨w.heap.size + 1, 4, none⟩ = some (.slice tA bs.length tc) := HB5.out.b6.cell 4 rfl
  have hx0 : w5.cell? ⟨w.heap.size, 0, none⟩ = some (.int .i64 (n : Int)) := by rw [← H.out.cfg.1]; exact HB5.out.b4.cell 0 rfl
  go_wp2_with (refine wpList_loadM rfl _ rfl _ rfl m ?_ ?_; exact HB5.out.b4)
  clear x4 hx0 hcv
  refine (HMG.out col' w5 HM5.out).mono ?_
  rintro e w6 ⟨m', rfl, mg⟩
  have HMGR := Lib.hid mg
  have HB6 := Lib.hid (HB5.out.below mg.bel)
  have HMO6 : Hid (modOne m') := by
    obtain ⟨vs', hM6⟩ := mg.ex
    exact hM6.modOne
  clear mg
  go_wp2_with ((refine wpList_storeM rfl _ _ rfl _ rfl m' md0 HMO6.out rfl ?_ ?_; exact HB6.out.b8; rintro wS hbS hkS; have HB9 := Lib.hid (HB6.out.b9.keep hkS.out (by omega)); have y9 := HB9.out.cell 0 rfl; have g9 := HB9.out.frozen 0))
  obtain ⟨e0, e1, e2, e3, e4, e5, e6, e7, e8, e9, e10, e11, e12, e13, e14⟩ := mod15 hbS.out
  have HSC : Hid (Keep (fun q => q = w.heap.size + 1 + 1 + 1) wS (wS.setCell ⟨w.heap.size + 1 + 1 + 1, 0, none⟩ (.bool true))) := (Keep.refl (fun q => q = w.heap.size + 1 + 1 + 1) wS).setCell (p := ⟨w.heap.size + 1 + 1 + 1, 0, none⟩) (.inl rfl) _
  refine bodyPost_ret (v := .tuple #[.agg (modC m'), .bool true]) (by simp [results, Try.results19, go_sem, modC, e0, e1, e2, e3, e4, e5, e6, e7, e8, e9, e10, e11, e12, e13, e14, y9]) rfl ⟨m', rfl, ?_⟩
  have hzz := HZZ.out
  exact give_end H.out HALL.out HKK.out HT.out HBL.out HPD.out HXX.out g2 HN5.out HC5.out HG5.out HK5.out HMGR.out ((hkS.out.mono (fun q _ e => by omega)).trans HSC.out (fun q _ e => by omega))
end Go.Proofs.Ytlodiibmofeikaa
