/- simnet: the law's step of kind 3, refused. -/
import Derived.Test.YtlodiibmofeikaaQNetStepD
namespace Go.Proofs.Ytlodiibmofeikaa
open Go.RowKit Go.Shelf
set_option linter.unusedVariables false
set_option linter.unusedSimpArgs false
set_option maxRecDepth 100000 in
set_option maxHeartbeats 4000000 in
theorem step_3n (w : World) {col : Nat → Nat} {nb n : Nat} {delay room j lv : Int} {F : List FD} {m : MD} {k : Nat} {t : Int} (h : NM w col nb n delay room j lv F m k t) (hk : k < 1000) (now : Int) (ht : t ≤ now ∧ now ≤ t + 100) (r level later : Int) (tA : Option Addr) (tn tc : Nat) (bs : List Int) (hx : Reads w 1 (.slice tA tn tc) tn (u8s bs)) (hbs : bs.length = tn) (hbt : BtsI bs) (hxo : ∀ g, (Value.slice tA tn tc).ownBlock = some g → 0 < tn → col g = 0 ∧ g < w.heap.size) (hno : r < 0 ∨ (0 ≤ r ∧ (n : Int) ≤ r) ∨ (0 ≤ r ∧ r < (n : Int) ∧ 320 < tn)) :
    Calls Try.prog 19 #[.agg (modC m), .pointer (some ⟨nb, 0, none⟩), .agg #[.int .i64 3, .int .i64 r, .int .i64 level, .int .i64 later, .slice tA tn tc], .int .i64 now] w fun e w' => ∃ m', e = .returned (.tuple #[.agg (modC m'), .bool true]) ∧ SR w w' col nb n delay room j lv F m' (k + 1) now := by
  have H := Lib.hid h
  have hrc := h.cfg.1
  obtain ⟨hb4, hb6, hb8, hb9, hbl, hzz⟩ := boxes4n w (modC m) #[.int .i64 3, .int .i64 r, .int .i64 level, .int .i64 later, .slice tA tn tc] (modC md0) #[.bool false] 59 61 59 4
  have hx0 : ((((w.alloc (.cells (modC m) 59)).alloc (.cells #[.int .i64 3, .int .i64 r, .int .i64 level, .int .i64 later, .slice tA tn tc] 61)).alloc (.cells (modC md0) 59)).alloc (.cells #[.bool false] 4)).cell? ⟨w.heap.size, 0, none⟩ = some (.int .i64 (n : Int)) := by rw [← hrc]; exact hb4.cell 0 rfl
  obtain ⟨x0, x1, x2, x3, x4⟩ := blk5' hb6
  have HB : Hid (Bx4 w ((((w.alloc (.cells (modC m) 59)).alloc (.cells #[.int .i64 3, .int .i64 r, .int .i64 level, .int .i64 later, .slice tA tn tc] 61)).alloc (.cells (modC md0) 59)).alloc (.cells #[.bool false] 4)) (modC m) #[.int .i64 3, .int .i64 r, .int .i64 level, .int .i64 later, .slice tA tn tc]) := ⟨hb4, hb6, hb8, hb9⟩
  have HBL := Lib.hid hbl
  have HZZ : Hid (((((w.alloc (.cells (modC m) 59)).alloc (.cells #[.int .i64 3, .int .i64 r, .int .i64 level, .int .i64 later, .slice tA tn tc] 61)).alloc (.cells (modC md0) 59)).alloc (.cells #[.bool false] 4)).heap.size = w.heap.size + 1 + 1 + 1 + 1) := hzz
  have H1 := Lib.hid (h.below hbl)
  have HMO : Hid (modOne m) := by
    obtain ⟨⟨gd, pv, P, fv, asks, vs, Xs, -, hM, -⟩, -⟩ := h
    exact hM.modOne
  have hn8 := h.cf.n
  have HT := Lib.hid ht
  have HKK := Lib.hid hk
  have HX := Lib.hid (hx.below hbl)
  have HBS := Lib.hid hbs
  have HBT := Lib.hid hbt
  have HXO := Lib.hid hxo
  clear h hrc hb4 hb6 hb8 hb9 hbl hzz ht hk hx hbs hbt hxo
  rcases hno with g | ⟨g, g'⟩ | ⟨g, g', g''⟩
  all_goals
    (try (have hd : decide (r < (n : Int)) = false := decide_eq_false (by omega)))
    go_enter Try.func19, Try.ntmps19
    go_wp2_with (first | (refine wpList_boxM rfl _ rfl m rfl ?_; rintro w1 hw1 - - -; have hw1' := hw1.out; subst hw1'; clear hw1) | (refine wpList_allocM rfl rfl ?_; rintro w2 hw2 - - -; have hw2' := hw2.out; subst hw2'; clear hw2))
    generalize ((((w.alloc (.cells (modC m) 59)).alloc (.cells #[.int .i64 3, .int .i64 r, .int .i64 level, .int .i64 later, .slice tA tn tc] 61)).alloc (.cells (modC md0) 59)).alloc (.cells #[.bool false] 4)) = w1 at *
    obtain ⟨gd, pv, P, fv, asks, vs, Xs, hN, -, hpi, -⟩ := H1.out.ex
    have hgl : gd.l.length = n := hpi.len
    have HUN := Lib.hid (up_no hN r now tA tn tc (by first | exact .inl (decide_eq_false (by omega)) | exact .inr (by unfold mayB; simp; omega)))
    clear hN hpi hgl
    refine HUN.out.mono ?_
    rintro e w2 ⟨rfl, rfl⟩
    go_wp2_with (first | (refine wpList_loadM rfl _ rfl _ rfl m ?_ ?_; exact HB.out.b4) | (refine wpList_storeM rfl _ _ rfl _ rfl m md0 HMO.out rfl ?_ ?_; exact HB.out.b8; rintro wS hbS hkS; have HB9 := Lib.hid (HB.out.b9.keep hkS.out (by omega)); have y9 := HB9.out.cell 0 rfl; have g9 := HB9.out.frozen 0))
    obtain ⟨e0, e1, e2, e3, e4, e5, e6, e7, e8, e9, e10, e11, e12, e13, e14⟩ := mod15 hbS.out
    have HSC : Hid (Keep (fun q => q = w.heap.size + 1 + 1 + 1) wS (wS.setCell ⟨w.heap.size + 1 + 1 + 1, 0, none⟩ (.bool true))) := (Keep.refl (fun q => q = w.heap.size + 1 + 1 + 1) wS).setCell (p := ⟨w.heap.size + 1 + 1 + 1, 0, none⟩) (.inl rfl) _
    exact bodyPost_ret (v := .tuple #[.agg (modC m), .bool true]) (by simp [results, Try.results19, go_sem, modC, e0, e1, e2, e3, e4, e5, e6, e7, e8, e9, e10, e11, e12, e13, e14, y9]) rfl ⟨m, rfl, SR.stay H.out HKK.out HT.out (bkeep (bkeep HBL.out hkS.out (Nat.le_refl _) (fun q e => by omega)) HSC.out (Nat.le_refl _) (fun q e => by omega))⟩
end Go.Proofs.Ytlodiibmofeikaa
