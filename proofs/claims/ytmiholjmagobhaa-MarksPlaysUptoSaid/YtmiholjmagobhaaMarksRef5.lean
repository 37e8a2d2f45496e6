/- marks: the reference: Mark, the other ways. -/
import Derived.Test.YtmiholjmagobhaaMarksRef4
namespace Go.Proofs.Ytmiholjmagobhaa
open Go.RowKit
set_option linter.unusedVariables false
set_option linter.unusedSimpArgs false

set_option maxRecDepth 100000 in
set_option maxHeartbeats 400000 in
theorem refmark_join (c : Cho) (k : Nat) (own now u : Int) (A : Option Addr) (m c0 : Nat) (l : List Int) (w : World) (hok : c.Ok) (h2 : k + 1 ≤ 7) (h3 : k + 1 < m) (h4 : 0 ≤ now ∧ now ≤ 1099511627776) (hr : Reads w 1 (.slice A m c0) m (l.map (Value.int .u64))) (hu : l[k + 1]? = some u) (hl : c.level = k) (ho : u ≤ own) (ht : c.till (k + 1) ≤ now) :
    Calls Try.prog 18 #[.agg (stC c), .int .i64 ((k : Int) + 1), .slice A m c0, .int .u64 own, .int .i64 now] w fun e w' => e = .returned (.tuple #[.agg (stC { c with join := upd c.join (k + 1) now, level := (k : Int) + 1 }), .int .i64 1]) ∧ Below w.heap.size w w' := by
  have HBX := Lib.hid (boxes2 w (stC c) zC 42)
  obtain ⟨g, p, d, he, y0⟩ := hr.at (k + 1) _ (by rw [List.getElem?_map, hu]; rfl)
  cases he
  have hg := World.block_lt_of_cell? _ _ y0
  have a0 := HBX.out.1.cell 0 (v := .int .i64 c.level) rfl
  have a2 := HBX.out.1.cell (9 + (k + 1)) (st_till c (by omega))
  have a3 := HBX.out.1.cell (17 + (k + 1)) (st_join c (by omega))
  unfold zC at a0 a2 a3
  rw [hl] at a0
  obtain ⟨jn, hjn⟩ : ∃ x, x = c.join (k + 1) := ⟨_, rfl⟩
  obtain ⟨tl, htl⟩ : ∃ x, x = c.till (k + 1) := ⟨_, rfl⟩
  rw [← hjn] at a3
  rw [← htl] at a2 ht
  have g1 : ¬ (k : Int) + 1 < 1 := by omega
  have g2 : ¬ 7 < (k : Int) + 1 := by omega
  have g3 : ¬ (m : Int) ≤ (k : Int) + 1 := by omega
  have g4 : ¬ now < 0 := by omega
  have g5 : ¬ 1099511627776 < now := by omega
  have i1 : (0 : Int) ≤ (k : Int) + 1 := by omega
  have i2 : (k : Int) + 1 < (m : Int) := by omega
  have i3 : (k : Int) + 1 < 8 := by omega
  have i4 : (0 : Int) ≤ (k : Int) := by omega
  have e1 : ((k : Int) + 1 == (k : Int)) = false := by simp; omega
  have e2 : ((k : Int) + 1 == (k : Int) + 1) = true := by simp
  have e3 : ((k : Int) + 1).toNat = k + 1 := by omega
  have HK : Hid (k + 1 < 8) := by show _ < _; omega
  obtain ⟨c1, hc1⟩ : ∃ c1, c1 = { c with join := upd c.join (k + 1) now } := ⟨_, rfl⟩
  have q1 : (stC c).setIfInBounds (17 + (k + 1)) (.int .i64 now) = stC c1 := by rw [hc1]; exact st_set_join c (by omega) now
  obtain ⟨c2, hc2⟩ : ∃ c2, c2 = { c1 with level := (k : Int) + 1 } := ⟨_, rfl⟩
  have q2 : (stC c1).setIfInBounds 0 (.int .i64 ((k : Int) + 1)) = stC c2 := by rw [hc2]; exact st_set_level c1 _
  have HC2 : Hid (stC { c with join := upd c.join (k + 1) now, level := (k : Int) + 1 } = stC c2) := by show _ = _; rw [hc2, hc1]
  have HBX2 := Lib.hid (boxes2 w (stC c2) zC 42)
  rw [HC2.out]
  clear hr hu hok hl hjn htl hc1 hc2 HC2
  go_enter Try.func18, Try.ntmps18
  go_wp2_with (first
    | (refine wpList_loadS rfl _ rfl _ rfl c2 (by exact HBX2.out.1) ?_)
    | (refine wpList_storeS rfl _ _ rfl _ rfl c2 rfl zC (by exact HBX2.out.2.1) zC_size ?_; rintro w9 HB9 HK9))
  have HF := Lib.hid (bkeep (show Below w.heap.size w ((w.alloc (.cells (stC c2) 42)).alloc (.cells zC 42)) from HBX2.out.2.2.1) HK9.out (Nat.le_refl _) (fun q h => by omega))
  have hr := run_loadVar_row (P := Try.prog) w9 (w.heap.size + 1) _ _ _ (0, 0) _ HB9.out Try.underlying42 rfl info_st
  exact bodyPost_ret (v := .tuple #[.agg (stC c2), .int .i64 1]) (by simp [results, Try.f18, Act.put, asAddr, hr]) rfl ⟨rfl, HF.out⟩
set_option maxRecDepth 100000 in
set_option maxHeartbeats 400000 in
theorem refmark_stay (c : Cho) (n : Nat) (own now u : Int) (A : Option Addr) (m c0 : Nat) (l : List Int) (w : World) (h1 : 1 ≤ n) (h2 : n ≤ 7) (h3 : n < m) (h4 : 0 ≤ now ∧ now ≤ 1099511627776) (hlv : -1 ≤ c.level ∧ c.level ≤ 7) (hr : Reads w 1 (.slice A m c0) m (l.map (Value.int .u64))) (hu : l[n]? = some u)
    (hn1 : ¬ ((n : Int) = c.level ∧ own < u)) (hn2 : ¬ ((n : Int) = c.level + 1 ∧ u ≤ own ∧ c.till n ≤ now)) :
    Calls Try.prog 18 #[.agg (stC c), .int .i64 (n : Int), .slice A m c0, .int .u64 own, .int .i64 now] w fun e w' => e = .returned (.tuple #[.agg (stC c), .int .i64 0]) ∧ Below w.heap.size w w' := by
  have HBX := Lib.hid (boxes2 w (stC c) zC 42)
  obtain ⟨g, p, d, he, y0⟩ := hr.at n _ (by rw [List.getElem?_map, hu]; rfl)
  cases he
  have hg := World.block_lt_of_cell? _ _ y0
  have a0 := HBX.out.1.cell 0 (v := .int .i64 c.level) rfl
  have a2 := HBX.out.1.cell (9 + n) (st_till c (by omega))
  unfold zC at a0 a2
  obtain ⟨lv, hlv'⟩ : ∃ x, x = c.level := ⟨_, rfl⟩
  obtain ⟨tl, htl⟩ : ∃ x, x = c.till n := ⟨_, rfl⟩
  rw [← hlv'] at a0 hn1 hn2 hlv
  rw [← htl] at a2 hn2
  have g1 : ¬ (n : Int) < 1 := by omega
  have g2 : ¬ 7 < (n : Int) := by omega
  have g3 : ¬ (m : Int) ≤ (n : Int) := by omega
  have g4 : ¬ now < 0 := by omega
  have g5 : ¬ 1099511627776 < now := by omega
  have i1 : (0 : Int) ≤ (n : Int) := by omega
  have i2 : (n : Int) < (m : Int) := by omega
  have i3 : (n : Int) < 8 := by omega
  clear hr hu hlv' htl
  rcases (by omega : ((n : Int) = lv ∧ u ≤ own) ∨ ((n : Int) ≠ lv ∧ lv < 0) ∨ ((n : Int) ≠ lv ∧ 0 ≤ lv ∧ (n : Int) ≠ lv + 1) ∨ ((n : Int) = lv + 1 ∧ 0 ≤ lv ∧ own < u) ∨ ((n : Int) = lv + 1 ∧ 0 ≤ lv ∧ u ≤ own ∧ now < tl)) with ⟨k1, k2⟩ | ⟨k1, k2⟩ | ⟨k1, k2, k3⟩ | ⟨k1, k2, k3⟩ | ⟨k1, k2, k3, k4⟩
  · subst k1
    have e1 : ((n : Int) == (n : Int)) = true := by simp
    have e2 : ((n : Int) == (n : Int) + 1) = false := by simp; omega
    have e3 : ¬ own < u := by omega
    clear hn1 hn2
    go_enter Try.func18, Try.ntmps18
    go_wp2_with (first
      | (refine wpList_loadS rfl _ rfl _ rfl c (by exact HBX.out.1) ?_)
      | (refine wpList_storeS rfl _ _ rfl _ rfl c rfl zC (by exact HBX.out.2.1) zC_size ?_; rintro w9 HB9 HK9))
    have HF := Lib.hid (bkeep (show Below w.heap.size w ((w.alloc (.cells (stC c) 42)).alloc (.cells zC 42)) from HBX.out.2.2.1) HK9.out (Nat.le_refl _) (fun q h => by omega))
    have hr := run_loadVar_row (P := Try.prog) w9 (w.heap.size + 1) _ _ _ (0, 0) _ HB9.out Try.underlying42 rfl info_st
    exact bodyPost_ret (v := .tuple #[.agg (stC c), .int .i64 0]) (by simp [results, Try.f18, Act.put, asAddr, hr]) rfl ⟨rfl, HF.out⟩
  · have e1 : ((n : Int) == lv) = false := by simp; omega
    have e3 : ¬ 0 ≤ lv := by omega
    clear hn1 hn2 k1
    go_enter Try.func18, Try.ntmps18
    go_wp2_with (first
      | (refine wpList_loadS rfl _ rfl _ rfl c (by exact HBX.out.1) ?_)
      | (refine wpList_storeS rfl _ _ rfl _ rfl c rfl zC (by exact HBX.out.2.1) zC_size ?_; rintro w9 HB9 HK9))
    have HF := Lib.hid (bkeep (show Below w.heap.size w ((w.alloc (.cells (stC c) 42)).alloc (.cells zC 42)) from HBX.out.2.2.1) HK9.out (Nat.le_refl _) (fun q h => by omega))
    have hr := run_loadVar_row (P := Try.prog) w9 (w.heap.size + 1) _ _ _ (0, 0) _ HB9.out Try.underlying42 rfl info_st
    exact bodyPost_ret (v := .tuple #[.agg (stC c), .int .i64 0]) (by simp [results, Try.f18, Act.put, asAddr, hr]) rfl ⟨rfl, HF.out⟩
  · have e1 : ((n : Int) == lv) = false := by simp; omega
    have e2 : ((n : Int) == lv + 1) = false := by simp; omega
    clear hn1 hn2 k1 k3
    go_enter Try.func18, Try.ntmps18
    go_wp2_with (first
      | (refine wpList_loadS rfl _ rfl _ rfl c (by exact HBX.out.1) ?_)
      | (refine wpList_storeS rfl _ _ rfl _ rfl c rfl zC (by exact HBX.out.2.1) zC_size ?_; rintro w9 HB9 HK9))
    have HF := Lib.hid (bkeep (show Below w.heap.size w ((w.alloc (.cells (stC c) 42)).alloc (.cells zC 42)) from HBX.out.2.2.1) HK9.out (Nat.le_refl _) (fun q h => by omega))
    have hr := run_loadVar_row (P := Try.prog) w9 (w.heap.size + 1) _ _ _ (0, 0) _ HB9.out Try.underlying42 rfl info_st
    exact bodyPost_ret (v := .tuple #[.agg (stC c), .int .i64 0]) (by simp [results, Try.f18, Act.put, asAddr, hr]) rfl ⟨rfl, HF.out⟩
  · have e1 : ((n : Int) == lv) = false := by simp; omega
    have e2 : ((n : Int) == lv + 1) = true := by simp; omega
    have e3 : ¬ u ≤ own := by omega
    clear hn1 hn2 k1
    go_enter Try.func18, Try.ntmps18
    go_wp2_with (first
      | (refine wpList_loadS rfl _ rfl _ rfl c (by exact HBX.out.1) ?_)
      | (refine wpList_storeS rfl _ _ rfl _ rfl c rfl zC (by exact HBX.out.2.1) zC_size ?_; rintro w9 HB9 HK9))
    have HF := Lib.hid (bkeep (show Below w.heap.size w ((w.alloc (.cells (stC c) 42)).alloc (.cells zC 42)) from HBX.out.2.2.1) HK9.out (Nat.le_refl _) (fun q h => by omega))
    have hr := run_loadVar_row (P := Try.prog) w9 (w.heap.size + 1) _ _ _ (0, 0) _ HB9.out Try.underlying42 rfl info_st
    exact bodyPost_ret (v := .tuple #[.agg (stC c), .int .i64 0]) (by simp [results, Try.f18, Act.put, asAddr, hr]) rfl ⟨rfl, HF.out⟩
  · have e1 : ((n : Int) == lv) = false := by simp; omega
    have e2 : ((n : Int) == lv + 1) = true := by simp; omega
    have e3 : ¬ tl ≤ now := by omega
    clear hn1 hn2 k1
    go_enter Try.func18, Try.ntmps18
    go_wp2_with (first
      | (refine wpList_loadS rfl _ rfl _ rfl c (by exact HBX.out.1) ?_)
      | (refine wpList_storeS rfl _ _ rfl _ rfl c rfl zC (by exact HBX.out.2.1) zC_size ?_; rintro w9 HB9 HK9))
    have HF := Lib.hid (bkeep (show Below w.heap.size w ((w.alloc (.cells (stC c) 42)).alloc (.cells zC 42)) from HBX.out.2.2.1) HK9.out (Nat.le_refl _) (fun q h => by omega))
    have hr := run_loadVar_row (P := Try.prog) w9 (w.heap.size + 1) _ _ _ (0, 0) _ HB9.out Try.underlying42 rfl info_st
    exact bodyPost_ret (v := .tuple #[.agg (stC c), .int .i64 0]) (by simp [results, Try.f18, Act.put, asAddr, hr]) rfl ⟨rfl, HF.out⟩
end Go.Proofs.Ytmiholjmagobhaa
