/- ranges: the law RangesAll. -/
import Derived.Test.YtddoefkojlghnaaRgAll2
import Derived.Test.YtddoefkojlghnaaRangesPlayed
import Derived.Test.YtddoefkojlghnaaRangesPlaysLaw
import Derived.Test.YtddoefkojlghnaaRanges8
import Derived.Lib.MinMax
namespace Go.Proofs.Ytddoefkojlghnaa
open Go.RowKit Go.Shelf
attribute [local go_sem] Oper.semAt_some
set_option linter.unusedVariables false
set_option linter.unusedSimpArgs false

/-- what a cell holds -/
def val1 (p : Nat) (W : World) : Value := (W.cell? ⟨p, 0, none⟩).getD undef
theorem val1_of {p : Nat} {W : World} {u : Value} (h : W.cell? ⟨p, 0, none⟩ = some u) : W.cell? ⟨p, 0, none⟩ = some (val1 p W) := by unfold val1; rw [h]; rfl
theorem s6_below {p6 p13 p5 p8 : Nat} {W0 w6 w7 : World} {u v x : Value} (h : Keep (fun k => k = p6) W0 w6 ∧ w6.cell? ⟨p13, 0, none⟩ = some u ∧ w6.cell? ⟨p5, 0, none⟩ = some v ∧ w6.cell? ⟨p8, 0, none⟩ = some x ∧ w6.cell? ⟨p6, 0, none⟩ = some (val1 p6 w6) ∧ w6.frozen? ⟨p6, 0, none⟩ = false) (hb : Below w6.heap.size w6 w7) :
    Keep (fun k => k = p6) W0 w7 ∧ w7.cell? ⟨p13, 0, none⟩ = some u ∧ w7.cell? ⟨p5, 0, none⟩ = some v ∧ w7.cell? ⟨p8, 0, none⟩ = some x ∧ w7.cell? ⟨p6, 0, none⟩ = some (val1 p6 w7) ∧ w7.frozen? ⟨p6, 0, none⟩ = false := by
  obtain ⟨h1, h2, h3, h4, h5, h6⟩ := h
  have hk := Keep.none hb
  have hl := World.block_lt_of_cell? _ _ h5
  refine ⟨h1.trans hk (fun _ _ h => h.elim), (hk.cell (World.block_lt_of_cell? _ _ h2) id).trans h2, (hk.cell (World.block_lt_of_cell? _ _ h3) id).trans h3, (hk.cell (World.block_lt_of_cell? _ _ h4) id).trans h4, val1_of ((hk.cell hl id).trans h5), (hk.frozen hl id).trans h6⟩
theorem s6_set {p6 p13 p5 p8 : Nat} {W0 w6 : World} {u v x : Value} (h : Keep (fun k => k = p6) W0 w6 ∧ w6.cell? ⟨p13, 0, none⟩ = some u ∧ w6.cell? ⟨p5, 0, none⟩ = some v ∧ w6.cell? ⟨p8, 0, none⟩ = some x ∧ w6.cell? ⟨p6, 0, none⟩ = some (val1 p6 w6) ∧ w6.frozen? ⟨p6, 0, none⟩ = false) (e1 : ¬ p13 = p6) (e2 : ¬ p5 = p6) (e3 : ¬ p8 = p6) (y : Value) :
    Keep (fun k => k = p6) W0 (w6.setCell ⟨p6, 0, none⟩ y) ∧ (w6.setCell ⟨p6, 0, none⟩ y).cell? ⟨p13, 0, none⟩ = some u ∧ (w6.setCell ⟨p6, 0, none⟩ y).cell? ⟨p5, 0, none⟩ = some v ∧ (w6.setCell ⟨p6, 0, none⟩ y).cell? ⟨p8, 0, none⟩ = some x ∧ (w6.setCell ⟨p6, 0, none⟩ y).cell? ⟨p6, 0, none⟩ = some (val1 p6 (w6.setCell ⟨p6, 0, none⟩ y)) ∧ (w6.setCell ⟨p6, 0, none⟩ y).frozen? ⟨p6, 0, none⟩ = false := by
  obtain ⟨h1, h2, h3, h4, h5, h6⟩ := h
  have hk := (Keep.refl (fun k => k = p6) w6).setCell (p := ⟨p6, 0, none⟩) (.inl rfl) y
  refine ⟨h1.trans hk (fun _ _ h => h), (hk.cell (World.block_lt_of_cell? _ _ h2) e1).trans h2, (hk.cell (World.block_lt_of_cell? _ _ h3) e2).trans h3, (hk.cell (World.block_lt_of_cell? _ _ h4) e3).trans h4, val1_of (World.cell?_setCell_same' _ _ _ (by rw [h5]; rfl)), by rw [World.frozen?_setCell]; exact h6⟩
theorem KeepC.setCell {S : Nat → Prop} {A W : World} (h : KeepC S A W) {p : Addr} (hp : S p.block) (u : Value) : KeepC S A (W.setCell p u) :=
  ⟨by simpa using h.1, fun k cs T hk hA => (Below.heap_setCell _ _ _ _ (fun e => hk (by rw [e]; exact hp))).trans (h.2 k cs T hk hA)⟩
set_option maxRecDepth 100000 in
set_option maxHeartbeats 4000000 in
theorem rangesAll_any (v v2 : Value) (l more : List (Int × Int × Int)) (stop : Int) (w : World) (h : Reads w 3 v l.length (l.flatMap opCells)) (h2 : Reads w 3 v2 more.length (more.flatMap opCells)) :
    Calls Try.prog 6 #[v, v2, .int .i64 stop] w fun e w' => e = .returned (.bool true) ∧ Below w.heap.size w w' := by
  have HAW := Lib.hid awake_any
  have HPL := Lib.hid (fun w h h1 => played_any v l w h h1)
  have HST := Lib.hid @step_any
  have HCY := Lib.hid @copy_any
  have HAL := Lib.hid @all_any
  have H := Lib.hid h
  have H2 := Lib.hid h2
  obtain ⟨A0, k0, rfl, -⟩ := h.val
  obtain ⟨A2, k2, rfl, -⟩ := h2.val
  obtain ⟨m, hm⟩ : ∃ m, m = l.length := ⟨_, rfl⟩
  obtain ⟨m2, hm2⟩ : ∃ m2, m2 = more.length := ⟨_, rfl⟩
  have HM := Lib.hid hm
  have HM2 := Lib.hid hm2
  rw [← hm] at HPL H ⊢
  rw [← hm2] at H2 ⊢
  clear h h2 hm hm2
  by_cases hle : m ≤ 10 ∧ m2 ≤ 10 ∧ 1 ≤ stop ∧ stop ≤ 3000
  · obtain ⟨n1, n2, n3, n4⟩ := hle
    refine callsIn_wide.1 (callsIn_of_wp_marks (F := Fence.wide) (n := 9) Try.func6 rfl trivial ?_)
    rw [wpIn_wide]
    simp only [Try.ntmps6, List.size_toArray, List.length_cons, List.length_nil, Nat.reduceAdd, Nat.reduceSub, Array.replicate_succ, Array.replicate_zero, List.push_toArray, List.append_toArray, List.nil_append, List.cons_append]
    obtain ⟨wz, hwz⟩ : ∃ wz, wz = (w.alloc (.cells #[.int .i64 stop] 3)).alloc (.cells #[.bool false] 4) := ⟨_, rfl⟩
    have HWZ := Lib.hid hwz
    have HBZ : Hid (Below w.heap.size w wz) := by show Below _ _ _; rw [hwz]; exact ((Below.refl _ w).alloc (Nat.le_refl _) _).alloc (by simp) _
    obtain ⟨p5, hp5⟩ : ∃ p5, p5 = w.heap.size := ⟨_, rfl⟩
    obtain ⟨p6, hp6⟩ : ∃ p6, p6 = w.heap.size + 1 := ⟨_, rfl⟩
    have HK5 : Hid (Blk wz p5 #[.int .i64 stop] 3) := by show Blk _ _ _ _; rw [hwz, hp5]; exact (Blk.new w _ _).alloc _
    have HK6 : Hid (Blk wz p6 #[.bool false] 4) := by
      show Blk _ _ _ _
      rw [hwz, hp6]
      have h := Blk.new (w.alloc (.cells #[.int .i64 stop] 3)) #[.bool false] 4
      rwa [World.size_alloc] at h
    have HPS : Hid (p5 = w.heap.size ∧ p6 = w.heap.size + 1) := ⟨hp5, hp6⟩
    have HPZ := Lib.hid (HPL.out wz (H.out.below HBZ.out) (by omega))
    clear hwz hp5 hp6
    go_wp2_with fail
    rw [← HWZ.out, ← HPS.out.2, ← HPS.out.1]
    refine HPZ.out.mono ?_
    rintro e w1 ⟨b, v0, L, A, k, rfl, HP, HB⟩
    obtain ⟨wy, hwy⟩ : ∃ wy, wy = w1.alloc (.cells #[.slice A 16384 k] 33) := ⟨_, rfl⟩
    have HWY := Lib.hid hwy
    have HBY : Hid (Below w1.heap.size w1 wy) := by show Below _ _ _; rw [hwy]; exact (Below.refl _ w1).alloc (Nat.le_refl _) _
    obtain ⟨p8, hp8⟩ : ∃ p8, p8 = w1.heap.size := ⟨_, rfl⟩
    have HP8 := Lib.hid hp8
    have HK8 : Hid (Blk wy p8 #[.slice A 16384 k] 33) := by show Blk _ _ _ _; rw [hwy, hp8]; exact Blk.new w1 _ _
    have HPY := Lib.hid (HP.out.below HBY.out)
    have HQY : Hid (Below wz.heap.size wz wy) := bmore HB.out HBY.out HB.out.size
    have HCY2 := Lib.hid (HCY.out b v0 L _ wy HPY.out.at_ (by have := HPY.out.good.len'; omega))
    clear hwy hp8
    go_wp2_with fail
    rw [← HWY.out, ← HP8.out]
    refine HCY2.out.mono ?_
    rintro e w2 ⟨bc, vc, rfl, hsc, hbc, hvc, hb2⟩
    have HSC := Lib.hid hsc
    have HVC := Lib.hid hvc
    have HB2 := Lib.hid hb2
    have HGC : Hid (Good (-1) L) := HPY.out.good
    clear hsc hvc hb2
    go_wp2_with fail
    go_loopw [45] (fun i wr => ∃ (j : Nat) (vd : Value) (Ld : List (Int × Int)), j ≤ m2 ∧ i = .int .i64 j ∧ Hid (SetAt wr bc vd Ld (tot Ld)) ∧ Hid (Good (-1) Ld) ∧ Hid (∀ g, vd.ownBlock = some g → wy.heap.size ≤ g) ∧ Hid (Below wy.heap.size wy wr)) (fun i _ => m2 - (intOf i).toNat)
    case atStart => exact ⟨0, vc, L, Nat.zero_le _, rfl, HSC, HGC, HVC, HB2⟩
    case round =>
      obtain ⟨j, vd, Ld, hj, rfl, HSD, HGD, HVD, HBD⟩ := hrel
      have HQD : Hid (Below w.heap.size w wr) := bmore (bmore HBZ.out HQY.out HBZ.out.size) HBD.out (Nat.le_trans HBZ.out.size HQY.out.size)
      have HK8D : Hid (Blk wr p8 #[.slice A 16384 k] 33) := HK8.out.below HBD.out
      have d8 : wr.cell? ⟨p8, 0, none⟩ = some (.slice A 16384 k) := HK8D.out.cell 0 rfl
      have d8a : p8 < wr.heap.size := HK8D.out.lt
      have d8b : ¬ p8 = wr.heap.size := by omega
      have d8c : ¬ wr.heap.size = p8 := by omega
      have HPD := Lib.hid (HPY.out.below HBD.out)
      by_cases hjm : j < m2
      · obtain ⟨x, hx⟩ : ∃ x, more[j]? = some x := ⟨_, List.getElem?_eq_getElem (by have := HM2.out; omega)⟩
        obtain ⟨g, o, cc, he, y0, y1, y2⟩ := (H2.out.below HQD.out).opd hx
        cases he
        have i1 : (0 : Int) ≤ (j : Int) := by omega
        have i2 : (j : Int) < (m2 : Int) := by omega
        obtain ⟨wx, hwx⟩ : ∃ wx, wx = wr.alloc (.cells #[.int .i64 x.1, .int .i64 x.2.1, .int .i64 x.2.2] 35) := ⟨_, rfl⟩
        have HWX := Lib.hid hwx
        have HBX : Hid (Below wr.heap.size wr wx) := by show Below _ _ _; rw [hwx]; exact (Below.refl _ wr).alloc (Nat.le_refl _) _
        have HPX := Lib.hid (HPD.out.below HBX.out)
        have HSX := Lib.hid (HST.out bc vd (.slice A 16384 k) Ld (cov L) x.1 x.2.1 x.2.2 wx (HSD.out.below HBX.out) HGD.out HPX.out.rd (fun g hg => by
          have h1 := HPY.out.rd.lt g hg (by omega)
          exact ⟨by omega, fun e => by have := HVD.out g e; omega⟩))
        have HQX : Hid (Below wy.heap.size wy wx) := bmore HBD.out HBX.out HBD.out.size
        clear hx hwx
        go_wp2_with fail
        rw [← HWX.out]
        refine HSX.out.mono ?_
        rintro e w5 h5
        obtain ⟨⟨v5, l5, V5, f5, ok, rfl, g5, s5, -, -, -, o5, -⟩, k5⟩ := h5
        have HS5 := Lib.hid s5
        have HG5 := Lib.hid g5
        have HV5 : Hid (∀ g, v5.ownBlock = some g → wy.heap.size ≤ g) := fun g hg => (o5 g hg).elim (HVD.out g) (fun h => Nat.le_trans HQX.out.size h)
        have HB5 : Hid (Below wy.heap.size wy w5) := bkeep HQX.out k5 (Nat.le_refl _) (fun q hq => hq.elim (fun e => by rw [e]; exact hbc) (HVD.out q))
        clear g5 s5 o5 k5
        go_wp2
        go_roundw
        case rel => exact ⟨j + 1, v5, l5, by omega, by go_num, HS5, HG5, HV5, HB5⟩
        case measure => simp [intOf]; omega
      · obtain rfl : j = m2 := by omega
        have t1 : ¬ ((j : Int) < (j : Int)) := by omega
        have HQY2 : Hid (Below wz.heap.size wz wr) := bmore HQY.out HBD.out HQY.out.size
        obtain ⟨w3, rfl⟩ : ∃ w3 : World, w3 = wr := ⟨_, rfl⟩
        obtain ⟨w4, hw4⟩ : ∃ w4, w4 = (w3.alloc (.cells #[.int .i64 0] 3)).alloc (.cells #[.int .i64 0] 3) := ⟨_, rfl⟩
        obtain ⟨p12, hp12⟩ : ∃ p12, p12 = w3.heap.size := ⟨_, rfl⟩
        obtain ⟨p13, hp13⟩ : ∃ p13, p13 = w3.heap.size + 1 := ⟨_, rfl⟩
        have HB4 : Hid (Below w3.heap.size w3 w4) := by show Below _ _ _; rw [hw4]; exact ((Below.refl _ w3).alloc (Nat.le_refl _) _).alloc (by simp) _
        have HK12 : Hid (Blk w4 p12 #[.int .i64 0] 3) := by show Blk _ _ _ _; rw [hw4, hp12]; exact (Blk.new w3 _ _).alloc _
        have HK13 : Hid (Blk w4 p13 #[.int .i64 0] 3) := by
          show Blk _ _ _ _
          rw [hw4, hp13]
          have h := Blk.new (w3.alloc (.cells #[.int .i64 0] 3)) #[.int .i64 0] 3
          rwa [World.size_alloc] at h
        have HW4 := Lib.hid hw4
        have HP12 : Hid (p12 = w3.heap.size ∧ p13 = w3.heap.size + 1) := ⟨hp12, hp13⟩
        clear hw4 hp12 hp13
        go_wp2_with fail
        rw [← HW4.out, ← HP12.out.2, ← HP12.out.1]
        refine (HAL.out b w4).mono ?_
        rintro e w5 ⟨rfl, hw5⟩
        obtain ⟨pA, hpA⟩ : ∃ pA, pA = w4.heap.size := ⟨_, rfl⟩
        rw [← hpA]
        have HB5 : Hid (Below w4.heap.size w4 w5) := by show Below _ _ _; rw [hw5]; exact (Below.refl _ w4).alloc (Nat.le_refl _) _
        have HKA : Hid (Blk w5 pA #[.pointer (some ⟨b, 0, none⟩)] 25) := by show Blk _ _ _ _; rw [hw5, hpA]; exact Blk.new w4 _ _
        clear hw5 hpA
        have HQ5 : Hid (Below w3.heap.size w3 w5) := bmore HB4.out HB5.out HB4.out.size
        have HK12b : Hid (Blk w5 p12 #[.int .i64 0] 3) := HK12.out.below HB5.out
        have HK13b : Hid (Blk w5 p13 #[.int .i64 0] 3) := HK13.out.below HB5.out
        have HP5 := Lib.hid (HPD.out.below HQ5.out)
        have hlt12 : p12 < w5.heap.size := HK12b.out.lt
        have hlt13 : p13 < w5.heap.size := HK13b.out.lt
        have hs35 : w3.heap.size ≤ w5.heap.size := HQ5.out.size
        have HSTOPS : Hid (SeqStopsK Fence.wide (9 - 1) Try.prog 28 #[.pointer (some ⟨pA, 0, none⟩)] (fun x : Int => #[Value.int .i64 x]) (KeepC (fun k => k = p12 ∨ k = p13)) (fun ys => ys = nums L) (fun pre => pre <+: nums L) (nums L).length w5) :=
          all_stops Fence.wide (9 - 1) trivial rfl (by omega) pA b v0 L (tot L) _ HPD.out.good w5 (fun k hk => hk.elim (fun e => by omega) (fun e => by omega)) (fun hk => by have := HPD.out.at_.str.lt; have := HP12.out; omega) (fun g hg hk => by have := (HPD.out.at_.ne hg).2; have := HP12.out; omega) (HKA.out.cell 0 rfl) HP5.out.at_
        go_wp2_with fail
        refine (wpIn_wide (n := 9)).1 ?_
        refine' wpIn_rangeFunc_ownF (F := Fence.wide) (n := 9) rfl (by omega) (gf := 28) (lb := #[.pointer (some ⟨pA, 0, none⟩)]) rfl trivial (enters_of Try.func28 (by kernel_rfl) rfl)
          HSTOPS.out (fun h k => h.trans k) keepC_b (Below.refl _ _) (fun _ => rfl)
          (fun pre W => Blk W p12 #[.int .i64 (nxt pre)] 3 ∧ Blk W p13 #[.int .i64 (pre.length : Int)] 3 ∧ Below w3.heap.size w3 W ∧ pre <+: nums L ∧ (pre.length : Int) < stop)
          (fun c pre W => (c = .ret ∧ ¬ pre <+: nums L) ∨ (c = .exit 2 ∧ (pre.length : Int) = stop ∧ pre <+: nums L ∧ Blk W p13 #[.int .i64 stop] 3 ∧ Below w3.heap.size w3 W))
          (fun s W W' row hs hg hr => ⟨ownFrom_blk (β := Unit) _ (fun _ => p12) (fun _ => _) _ () W W' row hs.1 hg hr, ownFrom_blk (β := Unit) _ (fun _ => p13) (fun _ => _) _ () W W' row hs.2.1 hg hr, ownFrom_below (Nat.le_refl _) hs35 () W W' row hs.2.2.1 hg hr, hs.2.2.2⟩)
          (fun c s W W' row hs hg hr => hs.imp id (fun h => ⟨h.1, h.2.1, h.2.2.1, ownFrom_blk (β := Unit) _ (fun _ => p13) (fun _ => _) _ () W W' row h.2.2.2.1 hg hr, ownFrom_below (Nat.le_refl _) hs35 () W W' row h.2.2.2.2 hg hr⟩))
          ⟨HK12b.out, HK13b.out, HQ5.out, List.nil_prefix, by simp; omega⟩
          _ ?assign ?body ?done ?stop
        case assign =>
          intro l x W K hK
          gi_wp2
          exact hK
        case body =>
          rintro l pre x W ⟨hk12, hk13, hbw, hpre, hlen⟩ hN
          obtain ⟨y, hy1, hy2, hy3, hy4, hy5, hy6⟩ := next_one HPD.out.good hpre hN
          have HY1 := Lib.hid hy1
          have HY2 := Lib.hid hy2
          have HY5 := Lib.hid hy5
          have HY6 := Lib.hid hy6
          have HPRE := Lib.hid hpre
          have hyl := (HPD.out.good.lo_cov hy2).2
          have HI12 := Lib.hid hk12
          have HI13 := Lib.hid hk13
          have HBW := Lib.hid hbw
          obtain ⟨kn, hkn⟩ : ∃ kn : Int, kn = (pre.length : Int) := ⟨_, rfl⟩
          have HKN := Lib.hid hkn
          rw [← hkn] at hlen HI13
          obtain ⟨st, hst⟩ : ∃ st : Int, st = nxt pre := ⟨_, rfl⟩
          have HST2 := Lib.hid hst
          rw [← hst] at hy3 hy4 HI12 HY5
          have hkn0 : 0 ≤ kn := by omega
          clear hy1 hy2 hy5 hy6 hpre hk12 hk13 hbw hkn hst hN
          gi_wp2
          gi_loopw [57] (fun _ wr => ∃ i : Int, st ≤ i ∧ i ≤ y ∧ Hid (Blk wr p12 #[.int .i64 i] 3) ∧ Hid (Blk wr p13 #[.int .i64 kn] 3) ∧ Hid (Below w3.heap.size w3 wr) ∧ Hid (KeepsOthers W wr) ∧ Hid (KeepC (fun k => k = p12 ∨ k = p13) W wr)) (fun _ wr => (16384 - intOf ((wr.cell? ⟨p12, 0, none⟩).getD undef)).toNat)
          case atStart => exact ⟨st, Int.le_refl _, hy3, HI12, HI13, HBW, KeepsOthers.refl _, KeepC.refl _ _⟩
          case round =>
            obtain ⟨i, hi1, hi2, HR12, HR13, HBR, HKO, HKC⟩ := hrel
            obtain ⟨wb, rfl⟩ : ∃ wb : World, wb = wr := ⟨_, rfl⟩
            have c12 : wb.cell? ⟨p12, 0, none⟩ = some (.int .i64 i) := HR12.out.cell 0 rfl
            have f12 : wb.frozen? ⟨p12, 0, none⟩ = false := HR12.out.frozen 0
            have c13 : wb.cell? ⟨p13, 0, none⟩ = some (.int .i64 kn) := HR13.out.cell 0 rfl
            have f13 : wb.frozen? ⟨p13, 0, none⟩ = false := HR13.out.frozen 0
            have c8 : wb.cell? ⟨p8, 0, none⟩ = some (.slice A 16384 k) := (HK8D.out.below HBR.out).cell 0 rfl
            obtain ⟨q, hq⟩ : ∃ q : Nat, i = q := ⟨i.toNat, by omega⟩
            subst hq
            obtain ⟨g, o, cc, he, y0⟩ := (HPD.out.rd.below HBR.out).at q _ (bitV_get (by omega))
            cases he
            by_cases hiy : (q : Int) = y
            · have HL3 : Hid (Below wz.heap.size wz wb) := bmore HQY2.out HBR.out HQY2.out.size
              have c5 : wb.cell? ⟨p5, 0, none⟩ = some (.int .i64 stop) := (HK5.out.below HL3.out).cell 0 rfl
              have c6 : wb.cell? ⟨p6, 0, none⟩ = some (.bool false) := (HK6.out.below HL3.out).cell 0 rfl
              have f6 : wb.frozen? ⟨p6, 0, none⟩ = false := (HK6.out.below HL3.out).frozen 0
              have q1 := HP12.out.1
              have q2 := HP12.out.2
              have q3 := HK5.out.lt
              have q4 := HQY2.out.size
              have e1 : ¬ p13 = p12 := by omega
              have e2 : ¬ p12 = p13 := by omega
              have e3 : ¬ p5 = p12 := by omega
              have e4 : ¬ p12 = p5 := by omega
              have e5 : ¬ p5 = p13 := by omega
              have e6 : ¬ p13 = p5 := by omega
              have hy2' := HY2.out
              rw [← hiy] at hy2'
              rw [hy2'] at y0
              have y1 : wb.cell? ⟨g, o + q, none⟩ = some (.int .i64 1) := y0
              have HQY9 : Hid ((q : Int) = y) := hiy
              have i7 : (q : Int) < 16384 := by omega
              clear y0 hy2' q1 q2 q3 q4
              by_cases hxq : x = (q : Int)
              · have HS12 : Hid (Blk ((wb.setCell ⟨p12, 0, none⟩ (.int .i64 (x + 1))).setCell ⟨p13, 0, none⟩ (.int .i64 (kn + 1))) p12 #[.int .i64 (x + 1)] 3) := (HR12.out.set' (by simp)).setOther (p := ⟨p13, 0, none⟩) e2 _
                have HS13 : Hid (Blk ((wb.setCell ⟨p12, 0, none⟩ (.int .i64 (x + 1))).setCell ⟨p13, 0, none⟩ (.int .i64 (kn + 1))) p13 #[.int .i64 (kn + 1)] 3) := (HR13.out.setOther (p := ⟨p12, 0, none⟩) e1 _).set' (by simp)
                have HSB : Hid (Below w3.heap.size w3 ((wb.setCell ⟨p12, 0, none⟩ (.int .i64 (x + 1))).setCell ⟨p13, 0, none⟩ (.int .i64 (kn + 1)))) := (HBR.out.setCell (p := ⟨p12, 0, none⟩) (by have := HP12.out; simp; omega) _).setCell (p := ⟨p13, 0, none⟩) (by have := HP12.out; simp; omega) _
                have HSO : Hid (KeepsOthers W ((wb.setCell ⟨p12, 0, none⟩ (.int .i64 (x + 1))).setCell ⟨p13, 0, none⟩ (.int .i64 (kn + 1)))) := (HKO.out.trans (KeepsOthers.setCell _ _ _)).trans (KeepsOthers.setCell _ _ _)
                have HSC2 : Hid (KeepC (fun k => k = p12 ∨ k = p13) W ((wb.setCell ⟨p12, 0, none⟩ (.int .i64 (x + 1))).setCell ⟨p13, 0, none⟩ (.int .i64 (kn + 1)))) := (HKC.out.setCell (p := ⟨p12, 0, none⟩) (.inl rfl) _).setCell (p := ⟨p13, 0, none⟩) (.inr rfl) _
                have HPX : Hid (pre ++ [x] <+: nums L) := by show _ <+: _; rw [hxq, HQY9.out]; exact HY1.out
                have HLX : Hid (((pre ++ [x]).length : Int) = kn + 1) := by show _ = _; rw [HKN.out]; simp
                have i8 : x < 16384 := by omega
                have i9 : 0 ≤ x := by omega
                obtain rfl : x = (q : Int) := hxq
                by_cases hks : kn + 1 = stop
                · have i10 : (kn + 1 == stop) = true := by simp [hks]
                  have HKS := Lib.hid hks
                  clear hks hiy
                  gi_wp2
                  exact ⟨HSO.out, .inr ⟨rfl, by rw [HLX.out, HKS.out], HPX.out, by rw [← HKS.out]; exact HS13.out, HSB.out⟩⟩
                · have i10 : (kn + 1 == stop) = false := by simpa using hks
                  clear hiy
                  gi_wp2
                  exact ⟨HSO.out, HSC2.out, by rw [nxt_snoc]; exact HS12.out, by rw [HLX.out]; exact HS13.out, HSB.out, HPX.out, by rw [HLX.out]; omega⟩
              · have hne : (x == (q : Int)) = false := by simpa using hxq
                have hne2 : (x != (q : Int)) = true := by simpa using hxq
                have HNP : Hid (¬ pre ++ [x] <+: nums L) := fun h => hxq (by rw [HQY9.out]; exact HY6.out x h)
                have HSO : Hid (KeepsOthers W (wb.setCell ⟨p6, 0, none⟩ (.bool false))) := HKO.out.trans (KeepsOthers.setCell _ _ _)
                clear hxq hiy
                gi_wp2
                exact ⟨HSO.out, .inl ⟨rfl, HNP.out⟩⟩
            · have hcv : cov L (q : Int) = false := HY5.out _ hi1 (by omega)
              rw [hcv] at y0
              have y1 : wb.cell? ⟨g, o + q, none⟩ = some (.int .i64 0) := y0
              have HS12 : Hid (Blk (wb.setCell ⟨p12, 0, none⟩ (.int .i64 ((q : Int) + 1))) p12 #[.int .i64 ((q : Int) + 1)] 3) := HR12.out.set' (by simp)
              have HS13 : Hid (Blk (wb.setCell ⟨p12, 0, none⟩ (.int .i64 ((q : Int) + 1))) p13 #[.int .i64 kn] 3) := HR13.out.setOther (by have := HP12.out; simp; omega) _
              have HSB : Hid (Below w3.heap.size w3 (wb.setCell ⟨p12, 0, none⟩ (.int .i64 ((q : Int) + 1)))) := HBR.out.setCell (p := ⟨p12, 0, none⟩) (by have := HP12.out; simp; omega) _
              have HSO : Hid (KeepsOthers W (wb.setCell ⟨p12, 0, none⟩ (.int .i64 ((q : Int) + 1)))) := HKO.out.trans (KeepsOthers.setCell _ _ _)
              have HSC2 : Hid (KeepC (fun k => k = p12 ∨ k = p13) W (wb.setCell ⟨p12, 0, none⟩ (.int .i64 ((q : Int) + 1)))) := HKC.out.setCell (p := ⟨p12, 0, none⟩) (.inl rfl) _
              clear y0 hcv
              gi_wp2
              go_roundw
              case rel => exact ⟨(q : Int) + 1, by omega, by omega, HS12, HS13, HSB, HSO, HSC2⟩
              case measure => rw [HS12.out.cell 0 rfl, c12]; simp [intOf]; omega
        case done =>
          rintro D ys W hD rfl ⟨hk12, hk13, hbw, hpre, hlen⟩ hK
          obtain ⟨kn, hkn⟩ : ∃ kn : Int, kn = ((nums L).length : Int) := ⟨_, rfl⟩
          have hnt := nums_len HPD.out.good
          have hkm : kn = min stop (tot L) := by omega
          rw [← hkn] at hk13
          have HW13 := Lib.hid hk13
          have HBW := Lib.hid hbw
          clear hk12 hk13 hbw hpre hlen hnt hkn
          have HL3 : Hid (Below wz.heap.size wz W) := bmore HQY2.out HBW.out HQY2.out.size
          have c13 : W.cell? ⟨p13, 0, none⟩ = some (.int .i64 kn) := HW13.out.cell 0 rfl
          have c5 : W.cell? ⟨p5, 0, none⟩ = some (.int .i64 stop) := (HK5.out.below HL3.out).cell 0 rfl
          have c8 : W.cell? ⟨p8, 0, none⟩ = some (.slice A 16384 k) := (HK8D.out.below HBW.out).cell 0 rfl
          have c6 : W.cell? ⟨p6, 0, none⟩ = some (.bool false) := (HK6.out.below HL3.out).cell 0 rfl
          have f6 : W.frozen? ⟨p6, 0, none⟩ = false := (HK6.out.below HL3.out).frozen 0
          have q1 := HP12.out
          have q2 := HPS.out
          have q3 := HK6.out.lt
          have q4 := HB.out.size
          have q5 := HP8.out
          have q6 := HQY2.out.size
          have q7 : ∀ g, v0.ownBlock = some g → g ≠ p6 := fun g hg => by have := HP.out.vb g hg; omega
          have q8 : b ≠ p6 := by have := HP.out.bb; omega
          have q9 : ∀ g, (Value.slice A 16384 k).ownBlock = some g → g ≠ p6 := fun g hg => by have := HP.out.VB g hg; omega
          have e1 : ¬ p13 = p6 := by omega
          have e2 : ¬ p5 = p6 := by omega
          have e3 : ¬ p8 = p6 := by omega
          have HPW := Lib.hid (HPD.out.below HBW.out)
          have HSW : Hid (∀ w', Keep (fun k => k = p6) W.drew w' → SetAt w' b v0 L (tot L)) := fun w' hk => HPW.out.at_.drew.keep hk q8 q7
          have HRW : Hid (∀ w', Keep (fun k => k = p6) W.drew w' → Reads w' 1 (.slice A 16384 k) 16384 (bitV 16384 (cov L))) := fun w' hk => (HPW.out.rd.drewN 1).keep hk (fun g hg _ => q9 g hg)
          have HLN : Hid (∀ w', Keep (fun k => k = p6) W.drew w' → _) := fun w' hk => len_any b v0 L (tot L) w' (HSW.out w' hk)
          have hll := HPW.out.good.len'
          obtain ⟨nl, hnl⟩ : ∃ nl, nl = L.length := ⟨_, rfl⟩
          have HNL := Lib.hid hnl
          have HSR : Hid (∀ w', Keep (fun k => k = p6) W.drew w' → Calls Try.prog 11 #[.pointer (some ⟨b, 0, none⟩)] w' fun e w'' => ∃ A c, e = .returned (.slice A nl c) ∧ Hid (Reads w'' 2 (.slice A nl c) nl (L.flatMap pairCells)) ∧ Below w'.heap.size w' w'') := fun w' hk => (str_any b v0 L (tot L) w' (HSW.out w' hk) (by omega)).mono fun e w'' ⟨A, c, h1, h2, h3⟩ => ⟨A, c, by rw [hnl]; exact h1, by rw [hnl]; exact Reads.of_owns h2, h3⟩
          have HRS : Hid (∀ w', Keep (fun k => k = p6) W.drew w' → Calls Try.prog 14 #[.slice A 16384 k, .int .i64 0, .int .i64 16384, .int .i64 1] w' fun e w'' => ∃ A c, e = .returned (.slice A nl c) ∧ Hid (Reads w'' 2 (.slice A nl c) nl (L.flatMap pairCells)) ∧ Below w'.heap.size w' w'') := fun w' hk => (refstr_any _ (cov L) 0 16384 true w' (HRW.out w' hk) (by omega) (by omega)).mono fun e w'' ⟨S, A, c, h1, h2, h3, h4, h5⟩ => by
            obtain rfl : S = L := stretches_eq h2 HPW.out.good h3
            exact ⟨A, c, by rw [hnl]; exact h1, by rw [hnl]; exact Reads.of_owns h4, h5⟩
          have HPR : Hid (∀ A B c d w', Reads w' 2 (.slice A nl c) nl (L.flatMap pairCells) → Reads w' 2 (.slice B nl d) nl (L.flatMap pairCells) → Calls Try.prog 10 #[.slice A nl c, .slice B nl d] w' fun e w'' => e = .returned (.bool true) ∧ Below w'.heap.size w' w'') := fun A B c d w' h1 h2 => (pairs_yes A B c d nl L w' h1 h2 (by omega) hnl).mono fun e w'' ⟨h3, n, h4⟩ => ⟨h3, by rw [h4]; exact below_drewN (Below.refl _ _) n⟩
          have hS0 : Keep (fun k => k = p6) W.drew W.drew ∧ W.drew.cell? ⟨p13, 0, none⟩ = some (.int .i64 kn) ∧ W.drew.cell? ⟨p5, 0, none⟩ = some (.int .i64 stop) ∧ W.drew.cell? ⟨p8, 0, none⟩ = some (.slice A 16384 k) ∧ W.drew.cell? ⟨p6, 0, none⟩ = some (val1 p6 W.drew) ∧ W.drew.frozen? ⟨p6, 0, none⟩ = false := ⟨Keep.refl _ _, c13, c5, c8, val1_of (u := .bool false) c6, f6⟩
          have HPD6 : Hid (p6 < D ∧ w.heap.size ≤ p6 ∧ D < W.heap.size) := ⟨by omega, by omega, (Array.getElem?_eq_some_iff.1 hK).1⟩
          have HKD := Lib.hid hK
          have HQW : Hid (Below w.heap.size w W) := bmore HBZ.out HL3.out HBZ.out.size
          have HKM : Hid ((kn == min stop (tot L)) = true) := by show _ = _; rw [hkm]; simp
          have hkm2 : min stop (tot L) = kn := hkm.symm
          clear q1 q2 q3 q4 q5 q6 q7 q8 q9 hnl hK c13 c5 c8 c6 f6 hkm
          go_wp2_with fail
          go_region_held3 (fun w' => Keep (fun k => k = p6) W.drew w' ∧ w'.cell? ⟨p13, 0, none⟩ = some (.int .i64 kn) ∧ w'.cell? ⟨p5, 0, none⟩ = some (.int .i64 stop) ∧ w'.cell? ⟨p8, 0, none⟩ = some (.slice A 16384 k) ∧ w'.cell? ⟨p6, 0, none⟩ = some (val1 p6 w') ∧ w'.frozen? ⟨p6, 0, none⟩ = false)
            (first | assumption | exact s6_below (by assumption) hB7 | exact s6_below (by assumption) hB8 | exact s6_below (by assumption) hB9 | exact s6_below (by assumption) hB10 | exact s6_set (by assumption) e1 e2 e3 _)
            (first
              | (go_at_call 15; refine (HLN.out _ (‹Keep (fun k => k = p6) W.drew _ ∧ _›.1)).mono ?_; rintro e w' ⟨rfl, rfl⟩)
              | (go_at_call 11; refine (HSR.out _ (‹Keep (fun k => k = p6) W.drew _ ∧ _›.1)).mono ?_; rintro e w7 ⟨A7, c7, rfl, hO7, hB7⟩)
              | (go_at_call 14; refine (HRS.out _ (‹Keep (fun k => k = p6) W.drew _ ∧ _›.1)).mono ?_; rintro e w8 ⟨A8, c8, rfl, hO8, hB8⟩)
              | (go_at_call 10; refine (HPR.out A7 A8 c7 c8 _ (by first | exact hO7.out | exact hO7.out.keep (Keep.none hB8) (fun _ _ _ => id)) (by first | exact hO8.out | exact hO8.out.keep (Keep.none hB7) (fun _ _ _ => id))).mono ?_; rintro e w9 ⟨rfl, hB9⟩)
              | (go_at_call 8; refine (HAW.out _).mono ?_; rintro e w10 ⟨rfl, hB10⟩; have hX10 := s6_below (‹Keep (fun k => k = p6) W.drew _ ∧ _›) hB10))
          all_goals
            have h10 := hX10
            have hkf : Keep (fun k => k = p6) W.drew (w10.setCell ⟨p6, 0, none⟩ (.bool true)) := h10.1.setCell (p := ⟨p6, 0, none⟩) (.inl rfl) _
            have HDF : Hid ((w10.setCell ⟨p6, 0, none⟩ (.bool true)).heap[D]? = some (.deferred (some []))) := (hkf.block D HPD6.out.2.2 (by have := HPD6.out.1; omega)).trans HKD.out
            have HRF : Hid ((w10.setCell ⟨p6, 0, none⟩ (.bool true)).cell? ⟨p6, 0, none⟩ = some (.bool true)) := World.cell?_setCell_same' _ _ _ (by rw [h10.2.2.2.2.1]; rfl)
            have HBF : Hid (Below w.heap.size w (w10.setCell ⟨p6, 0, none⟩ (.bool true))) := bkeep (below_drewN HQW.out 1) hkf (Nat.le_refl _) (fun q hq => by rw [hq]; exact HPD6.out.2.1)
            have hwD : w.heap.size ≤ D := by have := HPD6.out; omega
            clear h10 hkf hkm2
            go_wp2
            refine ⟨by simp, .inl ⟨_, _, rfl, run_takeDeferred HDF.out, ?_⟩⟩
            have hc := cell_kept HRF.out (grownBy_putObj' _ D (.deferred none)) (fun r e => by cases e; exact ⟨_, HDF.out, rfl⟩)
            refine ⟨.bool true, ?_, rfl, HBF.out.trans (belowK_b (w := w) (Nat.le_refl _) _ D _ _ hwD HDF.out rfl rfl)⟩
            simp [results, Try.f6, go_sem, hc]
        case stop =>
          rintro D c pre W hD hSp (⟨rfl, hx⟩ | ⟨rfl, hks, hpre, hk13, hbw⟩) hK
          · exact absurd hSp hx
          · rw [wpIn_wide]
            obtain ⟨kn, hkn⟩ : ∃ kn : Int, kn = stop := ⟨_, rfl⟩
            have hnt := nums_len HPD.out.good
            have hpl := hSp.length_le
            have hkm : kn = min stop (tot L) := by omega
            have hk13' : Blk W p13 #[.int .i64 kn] 3 := by rw [hkn]; exact hk13
            have HW13 := Lib.hid hk13'
            have HBW := Lib.hid hbw
            clear hk13 hk13' hbw hpre hnt hkn hpl hSp hks
            have HL3 : Hid (Below wz.heap.size wz W) := bmore HQY2.out HBW.out HQY2.out.size
            have c13 : W.cell? ⟨p13, 0, none⟩ = some (.int .i64 kn) := HW13.out.cell 0 rfl
            have c5 : W.cell? ⟨p5, 0, none⟩ = some (.int .i64 stop) := (HK5.out.below HL3.out).cell 0 rfl
            have c8 : W.cell? ⟨p8, 0, none⟩ = some (.slice A 16384 k) := (HK8D.out.below HBW.out).cell 0 rfl
            have c6 : W.cell? ⟨p6, 0, none⟩ = some (.bool false) := (HK6.out.below HL3.out).cell 0 rfl
            have f6 : W.frozen? ⟨p6, 0, none⟩ = false := (HK6.out.below HL3.out).frozen 0
            have q1 := HP12.out
            have q2 := HPS.out
            have q3 := HK6.out.lt
            have q4 := HB.out.size
            have q5 := HP8.out
            have q6 := HQY2.out.size
            have q7 : ∀ g, v0.ownBlock = some g → g ≠ p6 := fun g hg => by have := HP.out.vb g hg; omega
            have q8 : b ≠ p6 := by have := HP.out.bb; omega
            have q9 : ∀ g, (Value.slice A 16384 k).ownBlock = some g → g ≠ p6 := fun g hg => by have := HP.out.VB g hg; omega
            have e1 : ¬ p13 = p6 := by omega
            have e2 : ¬ p5 = p6 := by omega
            have e3 : ¬ p8 = p6 := by omega
            have HPW := Lib.hid (HPD.out.below HBW.out)
            have HSW : Hid (∀ w', Keep (fun k => k = p6) W.drew w' → SetAt w' b v0 L (tot L)) := fun w' hk => HPW.out.at_.drew.keep hk q8 q7
            have HRW : Hid (∀ w', Keep (fun k => k = p6) W.drew w' → Reads w' 1 (.slice A 16384 k) 16384 (bitV 16384 (cov L))) := fun w' hk => (HPW.out.rd.drewN 1).keep hk (fun g hg _ => q9 g hg)
            have HLN : Hid (∀ w', Keep (fun k => k = p6) W.drew w' → _) := fun w' hk => len_any b v0 L (tot L) w' (HSW.out w' hk)
            have hll := HPW.out.good.len'
            obtain ⟨nl, hnl⟩ : ∃ nl, nl = L.length := ⟨_, rfl⟩
            have HNL := Lib.hid hnl
            have HSR : Hid (∀ w', Keep (fun k => k = p6) W.drew w' → Calls Try.prog 11 #[.pointer (some ⟨b, 0, none⟩)] w' fun e w'' => ∃ A c, e = .returned (.slice A nl c) ∧ Hid (Reads w'' 2 (.slice A nl c) nl (L.flatMap pairCells)) ∧ Below w'.heap.size w' w'') := fun w' hk => (str_any b v0 L (tot L) w' (HSW.out w' hk) (by omega)).mono fun e w'' ⟨A, c, h1, h2, h3⟩ => ⟨A, c, by rw [hnl]; exact h1, by rw [hnl]; exact Reads.of_owns h2, h3⟩
            have HRS : Hid (∀ w', Keep (fun k => k = p6) W.drew w' → Calls Try.prog 14 #[.slice A 16384 k, .int .i64 0, .int .i64 16384, .int .i64 1] w' fun e w'' => ∃ A c, e = .returned (.slice A nl c) ∧ Hid (Reads w'' 2 (.slice A nl c) nl (L.flatMap pairCells)) ∧ Below w'.heap.size w' w'') := fun w' hk => (refstr_any _ (cov L) 0 16384 true w' (HRW.out w' hk) (by omega) (by omega)).mono fun e w'' ⟨S, A, c, h1, h2, h3, h4, h5⟩ => by
              obtain rfl : S = L := stretches_eq h2 HPW.out.good h3
              exact ⟨A, c, by rw [hnl]; exact h1, by rw [hnl]; exact Reads.of_owns h4, h5⟩
            have HPR : Hid (∀ A B c d w', Reads w' 2 (.slice A nl c) nl (L.flatMap pairCells) → Reads w' 2 (.slice B nl d) nl (L.flatMap pairCells) → Calls Try.prog 10 #[.slice A nl c, .slice B nl d] w' fun e w'' => e = .returned (.bool true) ∧ Below w'.heap.size w' w'') := fun A B c d w' h1 h2 => (pairs_yes A B c d nl L w' h1 h2 (by omega) hnl).mono fun e w'' ⟨h3, n, h4⟩ => ⟨h3, by rw [h4]; exact below_drewN (Below.refl _ _) n⟩
            have hS0 : Keep (fun k => k = p6) W.drew W.drew ∧ W.drew.cell? ⟨p13, 0, none⟩ = some (.int .i64 kn) ∧ W.drew.cell? ⟨p5, 0, none⟩ = some (.int .i64 stop) ∧ W.drew.cell? ⟨p8, 0, none⟩ = some (.slice A 16384 k) ∧ W.drew.cell? ⟨p6, 0, none⟩ = some (val1 p6 W.drew) ∧ W.drew.frozen? ⟨p6, 0, none⟩ = false := ⟨Keep.refl _ _, c13, c5, c8, val1_of (u := .bool false) c6, f6⟩
            have HPD6 : Hid (p6 < D ∧ w.heap.size ≤ p6 ∧ D < W.heap.size) := ⟨by omega, by omega, (Array.getElem?_eq_some_iff.1 hK).1⟩
            have HKD := Lib.hid hK
            have HQW : Hid (Below w.heap.size w W) := bmore HBZ.out HL3.out HBZ.out.size
            have HKM : Hid ((kn == min stop (tot L)) = true) := by show _ = _; rw [hkm]; simp
            have hkm2 : min stop (tot L) = kn := hkm.symm
            clear q1 q2 q3 q4 q5 q6 q7 q8 q9 hnl hK c13 c5 c8 c6 f6 hkm
            go_wp2_with fail
            go_region_held3 (fun w' => Keep (fun k => k = p6) W.drew w' ∧ w'.cell? ⟨p13, 0, none⟩ = some (.int .i64 kn) ∧ w'.cell? ⟨p5, 0, none⟩ = some (.int .i64 stop) ∧ w'.cell? ⟨p8, 0, none⟩ = some (.slice A 16384 k) ∧ w'.cell? ⟨p6, 0, none⟩ = some (val1 p6 w') ∧ w'.frozen? ⟨p6, 0, none⟩ = false)
              (first | assumption | exact s6_below (by assumption) hB7 | exact s6_below (by assumption) hB8 | exact s6_below (by assumption) hB9 | exact s6_below (by assumption) hB10 | exact s6_set (by assumption) e1 e2 e3 _)
              (first
                | (go_at_call 15; refine (HLN.out _ (‹Keep (fun k => k = p6) W.drew _ ∧ _›.1)).mono ?_; rintro e w' ⟨rfl, rfl⟩)
                | (go_at_call 11; refine (HSR.out _ (‹Keep (fun k => k = p6) W.drew _ ∧ _›.1)).mono ?_; rintro e w7 ⟨A7, c7, rfl, hO7, hB7⟩)
                | (go_at_call 14; refine (HRS.out _ (‹Keep (fun k => k = p6) W.drew _ ∧ _›.1)).mono ?_; rintro e w8 ⟨A8, c8, rfl, hO8, hB8⟩)
                | (go_at_call 10; refine (HPR.out A7 A8 c7 c8 _ (by first | exact hO7.out | exact hO7.out.keep (Keep.none hB8) (fun _ _ _ => id)) (by first | exact hO8.out | exact hO8.out.keep (Keep.none hB7) (fun _ _ _ => id))).mono ?_; rintro e w9 ⟨rfl, hB9⟩)
                | (go_at_call 8; refine (HAW.out _).mono ?_; rintro e w10 ⟨rfl, hB10⟩; have hX10 := s6_below (‹Keep (fun k => k = p6) W.drew _ ∧ _›) hB10))
            all_goals
              have h10 := hX10
              have hkf : Keep (fun k => k = p6) W.drew (w10.setCell ⟨p6, 0, none⟩ (.bool true)) := h10.1.setCell (p := ⟨p6, 0, none⟩) (.inl rfl) _
              have HDF : Hid ((w10.setCell ⟨p6, 0, none⟩ (.bool true)).heap[D]? = some (.deferred (some []))) := (hkf.block D HPD6.out.2.2 (by have := HPD6.out.1; omega)).trans HKD.out
              have HRF : Hid ((w10.setCell ⟨p6, 0, none⟩ (.bool true)).cell? ⟨p6, 0, none⟩ = some (.bool true)) := World.cell?_setCell_same' _ _ _ (by rw [h10.2.2.2.2.1]; rfl)
              have HBF : Hid (Below w.heap.size w (w10.setCell ⟨p6, 0, none⟩ (.bool true))) := bkeep (below_drewN HQW.out 1) hkf (Nat.le_refl _) (fun q hq => by rw [hq]; exact HPD6.out.2.1)
              have hwD : w.heap.size ≤ D := by have := HPD6.out; omega
              clear h10 hkf hkm2
              go_wp2
              refine ⟨by simp, .inl ⟨_, _, rfl, run_takeDeferred HDF.out, ?_⟩⟩
              have hc := cell_kept HRF.out (grownBy_putObj' _ D (.deferred none)) (fun r e => by cases e; exact ⟨_, HDF.out, rfl⟩)
              refine ⟨.bool true, ?_, rfl, HBF.out.trans (belowK_b (w := w) (Nat.le_refl _) _ D _ _ hwD HDF.out rfl rfl)⟩
              simp [results, Try.f6, go_sem, hc]
  · have hn : 10 < m ∨ (¬ 10 < m ∧ 10 < m2) ∨ (¬ 10 < m ∧ ¬ 10 < m2 ∧ stop < 1) ∨ (¬ 10 < m ∧ ¬ 10 < m2 ∧ ¬ stop < 1 ∧ 3000 < stop) := by omega
    obtain ⟨wz, hwz⟩ : ∃ wz, wz = (w.alloc (.cells #[.int .i64 stop] 3)).alloc (.cells #[.bool false] 4) := ⟨_, rfl⟩
    have HWZ := Lib.hid hwz
    have HBZ : Hid (Below w.heap.size w wz) := by show Below _ _ _; rw [hwz]; exact ((Below.refl _ w).alloc (Nat.le_refl _) _).alloc (by simp) _
    obtain ⟨p5, hp5⟩ : ∃ p5, p5 = w.heap.size := ⟨_, rfl⟩
    obtain ⟨p6, hp6⟩ : ∃ p6, p6 = w.heap.size + 1 := ⟨_, rfl⟩
    have HK6 : Hid (Blk wz p6 #[.bool false] 4) := by
      show Blk _ _ _ _
      rw [hwz, hp6]
      have h := Blk.new (w.alloc (.cells #[.int .i64 stop] 3)) #[.bool false] 4
      rwa [World.size_alloc] at h
    have HPS : Hid (p5 = w.heap.size ∧ p6 = w.heap.size + 1) := ⟨hp5, hp6⟩
    clear hwz hp5 hp6 hle
    refine callsIn_wide.1 (callsIn_of_wp_marks (F := Fence.wide) (n := 9) Try.func6 rfl trivial ?_)
    rw [wpIn_wide]
    simp only [Try.ntmps6, List.size_toArray, List.length_cons, List.length_nil, Nat.reduceAdd, Nat.reduceSub, Array.replicate_succ, Array.replicate_zero, List.push_toArray, List.append_toArray, List.nil_append, List.cons_append]
    rcases hn with r1 | ⟨r1, r2⟩ | ⟨r1, r2, r3⟩ | ⟨r1, r2, r3, r4⟩
    all_goals
      go_wp2_with fail
      rw [← HWZ.out, ← HPS.out.2, ← HPS.out.1]
      refine (HAW.out _).mono ?_
      rintro e w10 ⟨rfl, hb10⟩
      have HK10 : Hid (Blk w10 p6 #[.bool false] 4) := HK6.out.below hb10
      have HB10 : Hid (Below w.heap.size w w10) := bmore HBZ.out hb10 HBZ.out.size
      have c6 : w10.cell? ⟨p6, 0, none⟩ = some (.bool false) := HK10.out.cell 0 rfl
      have f6 : w10.frozen? ⟨p6, 0, none⟩ = false := HK10.out.frozen 0
      clear hb10
      go_wp2
      have hc : (w10.setCell ⟨p6, 0, none⟩ (.bool true)).cell? ⟨p6, 0, none⟩ = some (.bool true) := World.cell?_setCell_same' _ _ _ (by rw [c6]; rfl)
      have hb : Below w.heap.size w (w10.setCell ⟨p6, 0, none⟩ (.bool true)) := HB10.out.setCell (p := ⟨p6, 0, none⟩) (by have := HPS.out; simp; omega) _
      refine ⟨.bool true, ?_, rfl, hb⟩
      simp [results, Try.f6, go_sem, hc]
end Go.Proofs.Ytddoefkojlghnaa
