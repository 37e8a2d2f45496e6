/- marks: the reference: Mark. -/
import Derived.Test.YtmiholjmagobhaaMarksRef3
namespace Go.Proofs.Ytmiholjmagobhaa
open Go.RowKit
set_option linter.unusedVariables false
set_option linter.unusedSimpArgs false

set_option maxRecDepth 100000 in
set_option maxHeartbeats 400000 in
theorem refmark_no (c : Cho) (n own now : Int) (A : Option Addr) (m c0 : Nat) (w : World) (h : n < 1 ∨ 7 < n ∨ (m : Int) ≤ n ∨ now < 0 ∨ 1099511627776 < now) :
    Calls Try.prog 18 #[.agg (stC c), .int .i64 n, .slice A m c0, .int .u64 own, .int .i64 now] w fun e w' => e = .returned (.tuple #[.agg (stC c), .int .i64 0]) ∧ Below w.heap.size w w' := by
  have HBX := Lib.hid (boxes2 w (stC c) zC 42)
  rcases (by omega : n < 1 ∨ (¬ n < 1 ∧ 7 < n) ∨ (¬ n < 1 ∧ ¬ 7 < n ∧ (m : Int) ≤ n) ∨ (¬ n < 1 ∧ ¬ 7 < n ∧ ¬ (m : Int) ≤ n ∧ now < 0) ∨ (¬ n < 1 ∧ ¬ 7 < n ∧ ¬ (m : Int) ≤ n ∧ ¬ now < 0 ∧ 1099511627776 < now)) with g1 | ⟨g1, g2⟩ | ⟨g1, g2, g3⟩ | ⟨g1, g2, g3, g4⟩ | ⟨g1, g2, g3, g4, g5⟩
  all_goals
    clear h
    go_enter Try.func18, Try.ntmps18
    go_wp2_with (first
      | (refine wpList_loadS rfl _ rfl _ rfl c (by exact HBX.out.1) ?_)
      | (refine wpList_storeS rfl _ _ rfl _ rfl c rfl zC (by exact HBX.out.2.1) zC_size ?_; rintro w9 HB9 HK9))
    have HF := Lib.hid (bkeep (show Below w.heap.size w ((w.alloc (.cells (stC c) 42)).alloc (.cells zC 42)) from HBX.out.2.2.1) HK9.out (Nat.le_refl _) (fun q h => by omega))
    have hr := run_loadVar_row (P := Try.prog) w9 (w.heap.size + 1) _ _ _ (0, 0) _ HB9.out Try.underlying42 rfl info_st
    exact bodyPost_ret (v := .tuple #[.agg (stC c), .int .i64 0]) (by simp [results, Try.f18, Act.put, asAddr, hr]) rfl ⟨rfl, HF.out⟩
theorem st_congr {c d : Cho} (h1 : c.level = d.level) (h2 : ∀ i, i < 8 → c.wait i = d.wait i) (h3 : ∀ i, i < 8 → c.till i = d.till i) (h4 : ∀ i, i < 8 → c.join i = d.join i) (h5 : c.longest = d.longest) (h6 : c.fresh = d.fresh) : stC c = stC d := by
  unfold stC
  rw [h1, h5, h6, h2 0 (by omega), h2 1 (by omega), h2 2 (by omega), h2 3 (by omega), h2 4 (by omega), h2 5 (by omega), h2 6 (by omega), h2 7 (by omega), h3 0 (by omega), h3 1 (by omega), h3 2 (by omega), h3 3 (by omega), h3 4 (by omega), h3 5 (by omega), h3 6 (by omega), h3 7 (by omega), h4 0 (by omega), h4 1 (by omega), h4 2 (by omega), h4 3 (by omega), h4 4 (by omega), h4 5 (by omega), h4 6 (by omega), h4 7 (by omega)]
theorem upd_upd (f : Nat → Int) (n i : Nat) (x y : Int) : upd (upd f n x) n y i = upd f n y i := by
  unfold upd
  split <;> rfl
set_option maxRecDepth 100000 in
set_option maxHeartbeats 400000 in
theorem refmark_drop (c : Cho) (n : Nat) (own now u : Int) (A : Option Addr) (m c0 : Nat) (l : List Int) (w : World) (hok : c.Ok) (h1 : 1 ≤ n) (h2 : n ≤ 7) (h3 : n < m) (h4 : 0 ≤ now ∧ now ≤ 1099511627776) (hr : Reads w 1 (.slice A m c0) m (l.map (Value.int .u64))) (hu : l[n]? = some u) (hl : c.level = n) (ho : own < u) :
    Calls Try.prog 18 #[.agg (stC c), .int .i64 (n : Int), .slice A m c0, .int .u64 own, .int .i64 now] w fun e w' => e = .returned (.tuple #[.agg (stC (c.drop now)), .int .i64 (-1)]) ∧ Below w.heap.size w w' := by
  obtain ⟨wz, hwz⟩ : ∃ wz, wz = (w.alloc (.cells (stC c) 42)).alloc (.cells zC 42) := ⟨_, rfl⟩
  have hbx := boxes2 w (stC c) zC 42
  have hbx2 := hbx
  rw [← hwz] at hbx2
  have HB4 := Lib.hid hbx2.1
  have HB10 := Lib.hid hbx2.2.1
  have HLZ := Lib.hid hbx2.2.2.1
  have HZZ := Lib.hid hbx2.2.2.2
  unfold zC at hwz
  have HWZ := Lib.hid hwz
  obtain ⟨g, p, d, he, y0⟩ := hr.at n _ (by rw [List.getElem?_map, hu]; rfl)
  cases he
  have hg := World.block_lt_of_cell? _ _ y0
  have a0 := hbx.1.cell 0 (v := .int .i64 c.level) rfl
  unfold zC at a0
  rw [hl] at a0
  have b1 := hok.wait n (by omega)
  have b3 := hok.join n (by omega)
  have b4 := hok.longest
  have b5 := hok.fresh
  have hdf : stC (c.drop now) = stC (if now - c.join n ≤ c.fresh then { c with till := upd c.till n (now + c.wait n), wait := upd c.wait n (min (2 * c.wait n) c.longest), level := (n : Int) - 1 } else { c with level := (n : Int) - 1 }) := by
    unfold Cho.drop
    simp only [hl, Int.toNat_natCast]
    split <;> rfl
  have HDF := Lib.hid hdf
  have hcw := st_wait c (n := n) (by omega)
  have hcj := st_join c (n := n) (by omega)
  have hct := st_till c (n := n) (by omega)
  obtain ⟨wt, hwt⟩ : ∃ x, x = c.wait n := ⟨_, rfl⟩
  obtain ⟨jn, hjn⟩ : ∃ x, x = c.join n := ⟨_, rfl⟩
  obtain ⟨lg, hlg⟩ : ∃ x, x = c.longest := ⟨_, rfl⟩
  obtain ⟨fr, hfrr⟩ : ∃ x, x = c.fresh := ⟨_, rfl⟩
  obtain ⟨tl, htl⟩ : ∃ x, x = c.till n := ⟨_, rfl⟩
  rw [← hwt] at hcw b1 HDF
  rw [← hjn] at hcj b3 HDF
  rw [← hlg] at b4 HDF
  rw [← hfrr] at b5 HDF
  rw [← htl] at hct
  have HCW := Lib.hid hcw
  have HCJ := Lib.hid hcj
  have HCT := Lib.hid hct
  have HCL : Hid ((stC c)[25]? = some (.int .i64 lg)) := by show _ = _; rw [hlg]; rfl
  have HCF : Hid ((stC c)[26]? = some (.int .i64 fr)) := by show _ = _; rw [hfrr]; rfl
  have HLL := Lib.hid hl
  have HLG := Lib.hid hlg
  have HFR := Lib.hid hfrr
  have g1 : ¬ (n : Int) < 1 := by omega
  have g2 : ¬ 7 < (n : Int) := by omega
  have g3 : ¬ (m : Int) ≤ (n : Int) := by omega
  have g4 : ¬ now < 0 := by omega
  have g5 : ¬ 1099511627776 < now := by omega
  have i1 : (0 : Int) ≤ (n : Int) := by omega
  have i2 : (n : Int) < (m : Int) := by omega
  have i3 : (n : Int) < 8 := by omega
  have e1 : ((n : Int) == (n : Int)) = true := by simp
  clear hr hu hok hl hwt hjn hlg hfrr htl hbx hbx2 hwz hdf hcw hcj hct
  go_enter Try.func18, Try.ntmps18
  go_wp2_with fail
  rw [← HWZ.out]
  clear a0 y0
  have a3 := HB4.out.cell _ HCJ.out
  have a5 := HB4.out.cell _ HCF.out
  by_cases hfr : now - jn ≤ fr
  · have HD2 : Hid (stC (c.drop now) = stC { c with till := upd c.till n (now + wt), wait := upd c.wait n (min (2 * wt) lg), level := (n : Int) - 1 }) := by show _ = _; rw [HDF.out, if_pos hfr]; exact st_congr rfl (fun _ _ => rfl) (fun _ _ => rfl) (fun _ _ => rfl) HLG.out HFR.out
    have w1 : IntKind.i64.wrap (now - jn) = now - jn := IntWalk.i64_in _ (by omega)
    go_quiet (fail)
    clear w1 a3 a5
    obtain ⟨w5, hw5⟩ : ∃ w5, w5 = wz.drewN nq := ⟨_, rfl⟩
    rw [← hw5]
    have HB5 : Hid (Blk w5 w.heap.size (stC c) 42) := by show Blk _ _ _ _; rw [hw5]; exact HB4.out.drewN nq
    have HZ5 : Hid (Blk w5 (w.heap.size + 1) zC 42) := by show Blk _ _ _ _; rw [hw5]; exact HB10.out.drewN nq
    have HL5 : Hid (Below w.heap.size w w5) := by show Below _ _ _; rw [hw5]; exact below_drewN HLZ.out nq
    clear hw5
    have a1 := HB5.out.cell _ HCW.out
    have a2 := HB5.out.cell _ HCT.out
    have f1 := HB5.out.frozen (1 + n)
    have f2 := HB5.out.frozen (9 + n)
    have HB7 : Hid (Blk ((w5.setCell ⟨w.heap.size, 9 + n, none⟩ (.int .i64 (now + wt))).setCell ⟨w.heap.size, 1 + n, none⟩ (.int .i64 (2 * wt))) w.heap.size (stC { c with till := upd c.till n (now + wt), wait := upd c.wait n (2 * wt) }) 42) := (HB5.out.set' (st_set_till c (by omega) _)).set' (st_set_wait _ (by omega) _)
    have HZ7 : Hid (Blk ((w5.setCell ⟨w.heap.size, 9 + n, none⟩ (.int .i64 (now + wt))).setCell ⟨w.heap.size, 1 + n, none⟩ (.int .i64 (2 * wt))) (w.heap.size + 1) zC 42) := (HZ5.out.setOther (by simp) _).setOther (by simp) _
    have HL7 : Hid (Below w.heap.size w ((w5.setCell ⟨w.heap.size, 9 + n, none⟩ (.int .i64 (now + wt))).setCell ⟨w.heap.size, 1 + n, none⟩ (.int .i64 (2 * wt)))) := (HL5.out.setCell (p := ⟨w.heap.size, 9 + n, none⟩) (Nat.le_refl _) _).setCell (p := ⟨w.heap.size, 1 + n, none⟩) (Nat.le_refl _) _
    go_wp2_with fail
    clear a1 a2 f1 f2
    generalize (w5.setCell ⟨w.heap.size, 9 + n, none⟩ (.int .i64 (now + wt))).setCell ⟨w.heap.size, 1 + n, none⟩ (.int .i64 (2 * wt)) = w7 at *
    have HC7 : Hid ((stC { c with till := upd c.till n (now + wt), wait := upd c.wait n (2 * wt) })[1 + n]? = some (.int .i64 (2 * wt))) := by
      show _ = _
      rw [st_wait _ (show n < 8 by omega)]
      show some (Value.int .i64 (upd c.wait n (2 * wt) n)) = _
      unfold upd; rw [if_pos rfl]
    have a1 := HB7.out.cell _ HC7.out
    have a4 := HB7.out.cell 25 (v := .int .i64 lg) (by rw [HLG.out]; rfl)
    go_quiet (fail)
    clear a1 a4
    obtain ⟨w8, hw8⟩ : ∃ w8, w8 = w7.drewN nq := ⟨_, rfl⟩
    rw [← hw8]
    have HB8 : Hid (Blk w8 w.heap.size (stC { c with till := upd c.till n (now + wt), wait := upd c.wait n (2 * wt) }) 42) := by show Blk _ _ _ _; rw [hw8]; exact HB7.out.drewN _
    have HZ8 : Hid (Blk w8 (w.heap.size + 1) zC 42) := by show Blk _ _ _ _; rw [hw8]; exact HZ7.out.drewN _
    have HL8 : Hid (Below w.heap.size w w8) := by show Below _ _ _; rw [hw8]; exact below_drewN HL7.out _
    clear hw8
    have a0 := HB8.out.cell 0 (v := .int .i64 (n : Int)) (by rw [← HLL.out]; rfl)
    have a1 := HB8.out.cell _ HC7.out
    have a4 := HB8.out.cell 25 (v := .int .i64 lg) (by rw [HLG.out]; rfl)
    have f0 := HB8.out.frozen 0
    have f1 := HB8.out.frozen (1 + n)
    by_cases hm : lg < 2 * wt
    · have HD3 : Hid (stC (c.drop now) = stC { c with till := upd c.till n (now + wt), wait := upd (upd c.wait n (2 * wt)) n lg, level := (n : Int) - 1 }) := by show _ = _; rw [HD2.out]; exact st_congr rfl (fun i _ => by show upd c.wait n (min (2 * wt) lg) i = upd (upd c.wait n (2 * wt)) n lg i; rw [upd_upd, show min (2 * wt) lg = lg by omega]) (fun _ _ => rfl) (fun _ _ => rfl) rfl rfl
      have HBF : Hid (Blk ((w8.setCell ⟨w.heap.size, 1 + n, none⟩ (.int .i64 lg)).setCell ⟨w.heap.size, 0, none⟩ (.int .i64 ((n : Int) - 1))) w.heap.size (stC { c with till := upd c.till n (now + wt), wait := upd (upd c.wait n (2 * wt)) n lg, level := (n : Int) - 1 }) 42) := (HB8.out.set' (st_set_wait _ (by omega) _)).set' (st_set_level _ _)
      have HZF : Hid (Blk ((w8.setCell ⟨w.heap.size, 1 + n, none⟩ (.int .i64 lg)).setCell ⟨w.heap.size, 0, none⟩ (.int .i64 ((n : Int) - 1))) (w.heap.size + 1) zC 42) := (HZ8.out.setOther (by simp) _).setOther (by simp) _
      have HLF : Hid (Below w.heap.size w ((w8.setCell ⟨w.heap.size, 1 + n, none⟩ (.int .i64 lg)).setCell ⟨w.heap.size, 0, none⟩ (.int .i64 ((n : Int) - 1)))) := (HL8.out.setCell (p := ⟨w.heap.size, 1 + n, none⟩) (Nat.le_refl _) _).setCell (p := ⟨w.heap.size, 0, none⟩) (Nat.le_refl _) _
      go_wp2_with (first
        | (refine wpList_loadS rfl _ rfl _ rfl { c with till := upd c.till n (now + wt), wait := upd (upd c.wait n (2 * wt)) n lg, level := (n : Int) - 1 } HBF.out ?_)
        | (refine wpList_storeS rfl _ _ rfl _ rfl { c with till := upd c.till n (now + wt), wait := upd (upd c.wait n (2 * wt)) n lg, level := (n : Int) - 1 } rfl zC HZF.out zC_size ?_; rintro w9 HB9 HK9))
      have HF := Lib.hid (bkeep HLF.out HK9.out (Nat.le_refl _) (fun q h => by omega))
      have hr := run_loadVar_row (P := Try.prog) w9 (w.heap.size + 1) _ _ _ (0, 0) _ HB9.out Try.underlying42 rfl info_st
      exact bodyPost_ret (v := .tuple #[.agg (stC { c with till := upd c.till n (now + wt), wait := upd (upd c.wait n (2 * wt)) n lg, level := (n : Int) - 1 }), .int .i64 (-1)]) (by simp [results, Try.f18, Act.put, asAddr, hr]) rfl ⟨by rw [HD3.out], HF.out⟩
    · have HD3 : Hid (stC (c.drop now) = stC { c with till := upd c.till n (now + wt), wait := upd c.wait n (2 * wt), level := (n : Int) - 1 }) := by show _ = _; rw [HD2.out, show min (2 * wt) lg = 2 * wt by omega]
      have HBF : Hid (Blk (w8.setCell ⟨w.heap.size, 0, none⟩ (.int .i64 ((n : Int) - 1))) w.heap.size (stC { c with till := upd c.till n (now + wt), wait := upd c.wait n (2 * wt), level := (n : Int) - 1 }) 42) := HB8.out.set' (st_set_level _ _)
      have HZF : Hid (Blk (w8.setCell ⟨w.heap.size, 0, none⟩ (.int .i64 ((n : Int) - 1))) (w.heap.size + 1) zC 42) := HZ8.out.setOther (by simp) _
      have HLF : Hid (Below w.heap.size w (w8.setCell ⟨w.heap.size, 0, none⟩ (.int .i64 ((n : Int) - 1)))) := HL8.out.setCell (p := ⟨w.heap.size, 0, none⟩) (Nat.le_refl _) _
      go_wp2_with (first
        | (refine wpList_loadS rfl _ rfl _ rfl { c with till := upd c.till n (now + wt), wait := upd c.wait n (2 * wt), level := (n : Int) - 1 } HBF.out ?_)
        | (refine wpList_storeS rfl _ _ rfl _ rfl { c with till := upd c.till n (now + wt), wait := upd c.wait n (2 * wt), level := (n : Int) - 1 } rfl zC HZF.out zC_size ?_; rintro w9 HB9 HK9))
      have HF := Lib.hid (bkeep HLF.out HK9.out (Nat.le_refl _) (fun q h => by omega))
      have hr := run_loadVar_row (P := Try.prog) w9 (w.heap.size + 1) _ _ _ (0, 0) _ HB9.out Try.underlying42 rfl info_st
      exact bodyPost_ret (v := .tuple #[.agg (stC { c with till := upd c.till n (now + wt), wait := upd c.wait n (2 * wt), level := (n : Int) - 1 }), .int .i64 (-1)]) (by simp [results, Try.f18, Act.put, asAddr, hr]) rfl ⟨by rw [HD3.out], HF.out⟩
  · have HD2 : Hid (stC (c.drop now) = stC { c with level := (n : Int) - 1 }) := by show _ = _; rw [HDF.out, if_neg hfr]; exact st_congr rfl (fun _ _ => rfl) (fun _ _ => rfl) (fun _ _ => rfl) HLG.out HFR.out
    have w1 : IntKind.i64.wrap (now - jn) = now - jn := IntWalk.i64_in _ (by omega)
    go_quiet (fail)
    clear w1 a3 a5
    obtain ⟨w5, hw5⟩ : ∃ w5, w5 = wz.drewN nq := ⟨_, rfl⟩
    rw [← hw5]
    have HB5 : Hid (Blk w5 w.heap.size (stC c) 42) := by show Blk _ _ _ _; rw [hw5]; exact HB4.out.drewN nq
    have HZ5 : Hid (Blk w5 (w.heap.size + 1) zC 42) := by show Blk _ _ _ _; rw [hw5]; exact HB10.out.drewN nq
    have HL5 : Hid (Below w.heap.size w w5) := by show Below _ _ _; rw [hw5]; exact below_drewN HLZ.out nq
    clear hw5
    have a0 := HB5.out.cell 0 (v := .int .i64 (n : Int)) (by rw [← HLL.out]; rfl)
    have f0 := HB5.out.frozen 0
    have HBF : Hid (Blk (w5.setCell ⟨w.heap.size, 0, none⟩ (.int .i64 ((n : Int) - 1))) w.heap.size (stC { c with level := (n : Int) - 1 }) 42) := HB5.out.set' (st_set_level _ _)
    have HZF : Hid (Blk (w5.setCell ⟨w.heap.size, 0, none⟩ (.int .i64 ((n : Int) - 1))) (w.heap.size + 1) zC 42) := HZ5.out.setOther (by simp) _
    have HLF : Hid (Below w.heap.size w (w5.setCell ⟨w.heap.size, 0, none⟩ (.int .i64 ((n : Int) - 1)))) := HL5.out.setCell (p := ⟨w.heap.size, 0, none⟩) (Nat.le_refl _) _
    go_wp2_with (first
      | (refine wpList_loadS rfl _ rfl _ rfl { c with level := (n : Int) - 1 } HBF.out ?_)
      | (refine wpList_storeS rfl _ _ rfl _ rfl { c with level := (n : Int) - 1 } rfl zC HZF.out zC_size ?_; rintro w9 HB9 HK9))
    have HF := Lib.hid (bkeep HLF.out HK9.out (Nat.le_refl _) (fun q h => by omega))
    have hr := run_loadVar_row (P := Try.prog) w9 (w.heap.size + 1) _ _ _ (0, 0) _ HB9.out Try.underlying42 rfl info_st
    exact bodyPost_ret (v := .tuple #[.agg (stC { c with level := (n : Int) - 1 }), .int .i64 (-1)]) (by simp [results, Try.f18, Act.put, asAddr, hr]) rfl ⟨by rw [HD2.out], HF.out⟩
end Go.Proofs.Ytmiholjmagobhaa
