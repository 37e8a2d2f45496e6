/- simnet: the law's step. -/
import Derived.Test.YtlodiibmofeikaaQNetLight
namespace Go.Proofs.Ytlodiibmofeikaa
open Go.RowKit Go.Shelf
set_option linter.unusedVariables false
set_option linter.unusedSimpArgs false
theorem boxes4n (w : World) (a b c d : Array Value) (Ta Tb Tc Td : TypeId) :
    let w' := (((w.alloc (.cells a Ta)).alloc (.cells b Tb)).alloc (.cells c Tc)).alloc (.cells d Td)
    Blk w' w.heap.size a Ta ∧ Blk w' (w.heap.size + 1) b Tb ∧ Blk w' (w.heap.size + 1 + 1) c Tc ∧ Blk w' (w.heap.size + 1 + 1 + 1) d Td ∧ Below w.heap.size w w' ∧ w'.heap.size = w.heap.size + 1 + 1 + 1 + 1 := by
  intro w'
  obtain ⟨a1, a2, a3, a4, a5⟩ := boxes3' w a b c Ta Tb Tc
  have n4 := Blk.new (((w.alloc (.cells a Ta)).alloc (.cells b Tb)).alloc (.cells c Tc)) d Td
  rw [a5] at n4
  exact ⟨a1.alloc _, a2.alloc _, a3.alloc _, n4, a4.alloc (by omega) _, by show _ = _; rw [World.size_alloc, a5]⟩
/-- the four boxes -/
structure Bx4 (w W : World) (cm co : Array Value) : Prop where
  b4 : Blk W w.heap.size cm 59
  b6 : Blk W (w.heap.size + 1) co 61
  b8 : Blk W (w.heap.size + 1 + 1) (modC md0) 59
  b9 : Blk W (w.heap.size + 1 + 1 + 1) #[.bool false] 4
theorem Bx4.keep {S : Nat → Prop} {w A B : World} {cm co : Array Value} (h : Bx4 w A cm co) (hk : Keep S A B) (hs : ∀ q, w.heap.size ≤ q → q < w.heap.size + 4 → ¬ S q) : Bx4 w B cm co :=
  ⟨h.b4.keep hk (hs _ (by omega) (by omega)), h.b6.keep hk (hs _ (by omega) (by omega)), h.b8.keep hk (hs _ (by omega) (by omega)), h.b9.keep hk (hs _ (by omega) (by omega))⟩
theorem Bx4.below {w A B : World} {cm co : Array Value} (h : Bx4 w A cm co) (hb : Below A.heap.size A B) : Bx4 w B cm co := h.keep (Keep.none hb) (fun _ _ _ x => x)
theorem SR.stay {w w' : World} {col : Nat → Nat} {nb n : Nat} {delay room j lv : Int} {F : List FD} {m : MD} {k : Nat} {t t' : Int} (h : NM w col nb n delay room j lv F m k t) (hk : k < 1000) (ht : t ≤ t' ∧ t' ≤ t + 100) (hb : Below w.heap.size w w') : SR w w' col nb n delay room j lv F m (k + 1) t' :=
  ⟨⟨col, (h.below hb).stay hk ht, fun _ _ => rfl⟩, Keep.ofBelowAll hb⟩
theorem mod15 {w : World} {b : Nat} {m : MD} {T : TypeId} (h : Blk w b (modC m) T) : w.cell? ⟨b, 0, none⟩ = some (Value.int .i64 m.rc) ∧ w.cell? ⟨b, 1, none⟩ = some (Value.int .i64 m.delay) ∧ w.cell? ⟨b, 2, none⟩ = some (Value.int .i64 m.room) ∧ w.cell? ⟨b, 3, none⟩ = some (Value.int .i64 m.j) ∧ w.cell? ⟨b, 4, none⟩ = some (Value.int .i64 m.lv) ∧ w.cell? ⟨b, 5, none⟩ = some (m.av) ∧ w.cell? ⟨b, 6, none⟩ = some (m.lsv) ∧ w.cell? ⟨b, 7, none⟩ = some (m.fv) ∧ w.cell? ⟨b, 8, none⟩ = some (Value.int .i64 (m.used : Int)) ∧ w.cell? ⟨b, 9, none⟩ = some (Value.int .i64 m.s.sent) ∧ w.cell? ⟨b, 10, none⟩ = some (Value.int .i64 m.s.lost) ∧ w.cell? ⟨b, 11, none⟩ = some (Value.int .i64 m.s.dropped) ∧ w.cell? ⟨b, 12, none⟩ = some (Value.int .i64 m.s.doubled) ∧ w.cell? ⟨b, 13, none⟩ = some (Value.int .i64 m.s.late) ∧ w.cell? ⟨b, 14, none⟩ = some (Value.int .i64 m.s.turned) :=
  ⟨h.cell 0 rfl, h.cell 1 rfl, h.cell 2 rfl, h.cell 3 rfl, h.cell 4 rfl, h.cell 5 rfl, h.cell 6 rfl, h.cell 7 rfl, h.cell 8 rfl, h.cell 9 rfl, h.cell 10 rfl, h.cell 11 rfl, h.cell 12 rfl, h.cell 13 rfl, h.cell 14 rfl⟩
set_option maxRecDepth 100000 in
set_option maxHeartbeats 4000000 in
theorem step_0 (w : World) {col : Nat → Nat} {nb n : Nat} {delay room j lv : Int} {F : List FD} {m : MD} {k : Nat} {t : Int} (h : NM w col nb n delay room j lv F m k t) (hk : k < 1000) (now : Int) (ht : t ≤ now ∧ now ≤ t + 100) (kd : Int) (r level later : Int) (tA : Option Addr) (tn tc : Nat) (bs : List Int) (hx : Reads w 1 (.slice tA tn tc) tn (u8s bs)) (hbs : bs.length = tn) (hbt : BtsI bs) (hxo : ∀ g, (Value.slice tA tn tc).ownBlock = some g → 0 < tn → col g = 0 ∧ g < w.heap.size) (h1 : (kd == 1) = false) (h2 : (kd == 2) = false) (h3 : (kd == 3) = false) (h4 : (kd == 4) = false) (h5 : (kd == 5) = false) :
    Calls Try.prog 19 #[.agg (modC m), .pointer (some ⟨nb, 0, none⟩), .agg #[.int .i64 kd, .int .i64 r, .int .i64 level, .int .i64 later, .slice tA tn tc], .int .i64 now] w fun e w' => ∃ m', e = .returned (.tuple #[.agg (modC m'), .bool true]) ∧ SR w w' col nb n delay room j lv F m' (k + 1) now := by
  have H := Lib.hid h
  have hrc := h.cfg.1
  obtain ⟨hb4, hb6, hb8, hb9, hbl, hzz⟩ := boxes4n w (modC m) #[.int .i64 kd, .int .i64 r, .int .i64 level, .int .i64 later, .slice tA tn tc] (modC md0) #[.bool false] 59 61 59 4
  have hx0 : ((((w.alloc (.cells (modC m) 59)).alloc (.cells #[.int .i64 kd, .int .i64 r, .int .i64 level, .int .i64 later, .slice tA tn tc] 61)).alloc (.cells (modC md0) 59)).alloc (.cells #[.bool false] 4)).cell? ⟨w.heap.size, 0, none⟩ = some (.int .i64 (n : Int)) := by rw [← hrc]; exact hb4.cell 0 rfl
  obtain ⟨x0, x1, x2, x3, x4⟩ := blk5' hb6
  have HB : Hid (Bx4 w ((((w.alloc (.cells (modC m) 59)).alloc (.cells #[.int .i64 kd, .int .i64 r, .int .i64 level, .int .i64 later, .slice tA tn tc] 61)).alloc (.cells (modC md0) 59)).alloc (.cells #[.bool false] 4)) (modC m) #[.int .i64 kd, .int .i64 r, .int .i64 level, .int .i64 later, .slice tA tn tc]) := ⟨hb4, hb6, hb8, hb9⟩
  have HBL := Lib.hid hbl
  have HZZ : Hid (((((w.alloc (.cells (modC m) 59)).alloc (.cells #[.int .i64 kd, .int .i64 r, .int .i64 level, .int .i64 later, .slice tA tn tc] 61)).alloc (.cells (modC md0) 59)).alloc (.cells #[.bool false] 4)).heap.size = w.heap.size + 1 + 1 + 1 + 1) := hzz
  have H1 := Lib.hid (h.below hbl)
  have HMO : Hid (modOne m) := by
    obtain ⟨⟨gd, pv, P, fv, asks, vs, Xs, -, hM, -⟩, -⟩ := h
    exact hM.modOne
  have hn8 := h.cf.n
  have HT := Lib.hid ht
  have HKK := Lib.hid hk
  have HX := Lib.hid (hx.below hbl)
  have HBS := Lib.hid hbs
  have HBT := Lib.hid hbt
  have HXO := Lib.hid hxo
  clear h hrc hb4 hb6 hb8 hb9 hbl hzz ht hk hx hbs hbt hxo
  rcases (by omega : r < 0 ∨ (0 ≤ r ∧ r < (n : Int)) ∨ (0 ≤ r ∧ (n : Int) ≤ r)) with g | ⟨g, g'⟩ | ⟨g, g'⟩
  all_goals
    go_enter Try.func19, Try.ntmps19
    go_wp2_with (first | (refine wpList_boxM rfl _ rfl m rfl ?_; rintro w1 hw1 - - -; have hw1' := hw1.out; subst hw1'; clear hw1) | (refine wpList_allocM rfl rfl ?_; rintro w2 hw2 - - -; have hw2' := hw2.out; subst hw2'; clear hw2) | (refine wpList_loadM rfl _ rfl _ rfl m ?_ ?_; exact HB.out.b4) | (refine wpList_storeM rfl _ _ rfl _ rfl m md0 HMO.out rfl ?_ ?_; exact HB.out.b8; rintro wS hbS hkS; have HB9 := Lib.hid (HB.out.b9.keep hkS.out (by omega)); have y9 := HB9.out.cell 0 rfl; have g9 := HB9.out.frozen 0))
    obtain ⟨e0, e1, e2, e3, e4, e5, e6, e7, e8, e9, e10, e11, e12, e13, e14⟩ := mod15 hbS.out
    have HSC : Hid (Keep (fun q => q = w.heap.size + 1 + 1 + 1) wS (wS.setCell ⟨w.heap.size + 1 + 1 + 1, 0, none⟩ (.bool true))) := (Keep.refl (fun q => q = w.heap.size + 1 + 1 + 1) wS).setCell (p := ⟨w.heap.size + 1 + 1 + 1, 0, none⟩) (.inl rfl) _
    exact bodyPost_ret (v := .tuple #[.agg (modC m), .bool true]) (by simp [results, Try.results19, go_sem, modC, e0, e1, e2, e3, e4, e5, e6, e7, e8, e9, e10, e11, e12, e13, e14, y9]) rfl ⟨m, rfl, SR.stay H.out HKK.out HT.out (bkeep (bkeep HBL.out hkS.out (Nat.le_refl _) (fun q e => by omega)) HSC.out (Nat.le_refl _) (fun q e => by omega))⟩
end Go.Proofs.Ytlodiibmofeikaa
