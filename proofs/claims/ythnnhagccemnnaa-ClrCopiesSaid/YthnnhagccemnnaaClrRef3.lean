/- clr: the reference's Leave. -/
import Derived.Test.YthnnhagccemnnaaClrRefP
import Derived.Lib.Hide
namespace Go.Proofs.Ythnnhagccemnnaa
open Go.RowKit
set_option linter.unusedVariables false
set_option linter.unusedSimpArgs false

set_option maxRecDepth 100000 in
set_option maxHeartbeats 1000000 in
theorem refleave_no (s : CSt) (r : Int) (w : World) (h : r < 0 ∨ 63 < r ∨ (s.at' r.toNat).isSome = false) :
    Calls Try.prog 23 #[.agg (stC s), .int .i64 r] w fun e w' => e = .returned (.tuple #[.agg (stC s), .bool false]) ∧ Below w.heap.size w w' := by
  rcases (by by_cases a : r < 0; · exact .inl a
             · by_cases b : 63 < r; · exact .inr (.inl ⟨a, b⟩)
               · exact .inr (.inr ⟨a, b, by rcases h with x | x | x; exact absurd x a; exact absurd x b; exact x⟩) : r < 0 ∨ (¬ r < 0 ∧ 63 < r) ∨ (¬ r < 0 ∧ ¬ 63 < r ∧ (s.at' r.toNat).isSome = false)) with g1 | ⟨g1, g2⟩ | ⟨g1, g2, g3⟩
  case inr.inr =>
    obtain ⟨m, rfl⟩ : ∃ m : Nat, r = m := ⟨r.toNat, by omega⟩
    have HS1 := Lib.hid (st_some s (show m < 64 by omega))
    rw [Int.toNat_natCast] at g3
    rw [g3] at HS1
    have i1 : (m : Int) < 64 := by omega
    clear h g3
    go_enter Try.func23, Try.ntmps23
    go_wp2_with (first
      | (refine wpList_boxS rfl _ rfl s rfl ?_; rintro w1 - HB1 HL1 hs1)
      | (refine wpList_allocS rfl rfl ?_; rintro w2 - HZ2 HL2 hs2; have HB2 := Lib.hid (HB1.out.below HL2.out); have HL2' := Lib.hid (bmore HL1.out HL2.out HL1.out.size); have a1 := HB2.out.cell _ HS1.out; clear HB1 HL1)
      | (refine wpList_loadS rfl _ rfl _ rfl s ?_ ?_; exact HB2.out)
      | (refine wpList_storeS rfl _ _ rfl _ rfl s (st0 0) rfl ?_ ?_; exact HZ2.out; rintro w9 HB9 HK9))
    have HF := Lib.hid (bkeep HL2'.out HK9.out (Nat.le_refl _) (fun q h => by have := hs1.out; omega))
    have hr := run_loadVar_row (P := Try.prog) w9 w1.heap.size _ _ _ (0, 0) _ HB9.out Try.underlying45 rfl (by rw [stC_size]; exact info_st1)
    exact bodyPost_ret (v := .tuple #[.agg (stC s), .bool false]) (by simp [results, Try.f23, Act.put, asAddr, hr]) rfl ⟨rfl, HF.out⟩
  all_goals
    clear h
    go_enter Try.func23, Try.ntmps23
    go_wp2_with (first
      | (refine wpList_boxS rfl _ rfl s rfl ?_; rintro w1 - HB1 HL1 hs1)
      | (refine wpList_allocS rfl rfl ?_; rintro w2 - HZ2 HL2 hs2; have HB2 := Lib.hid (HB1.out.below HL2.out); have HL2' := Lib.hid (bmore HL1.out HL2.out HL1.out.size); clear HB1 HL1)
      | (refine wpList_loadS rfl _ rfl _ rfl s ?_ ?_; exact HB2.out)
      | (refine wpList_storeS rfl _ _ rfl _ rfl s (st0 0) rfl ?_ ?_; exact HZ2.out; rintro w9 HB9 HK9))
    have HF := Lib.hid (bkeep HL2'.out HK9.out (Nat.le_refl _) (fun q h => by have := hs1.out; omega))
    have hr := run_loadVar_row (P := Try.prog) w9 w1.heap.size _ _ _ (0, 0) _ HB9.out Try.underlying45 rfl (by rw [stC_size]; exact info_st1)
    exact bodyPost_ret (v := .tuple #[.agg (stC s), .bool false]) (by simp [results, Try.f23, Act.put, asAddr, hr]) rfl ⟨rfl, HF.out⟩

set_option maxRecDepth 100000 in
set_option maxHeartbeats 2000000 in
theorem refleave_clr (s : CSt) (m : Nat) (w : World) (hm : m < 64) (h : (s.at' m).isSome = true) (hc : s.clr = m) :
    Calls Try.prog 23 #[.agg (stC s), .int .i64 (m : Int)] w fun e w' => e = .returned (.tuple #[.agg (stC ⟨updO s.at' m none, -1⟩), .bool true]) ∧ Below w.heap.size w w' := by
  have g1 : ¬ (m : Int) < 0 := by omega
  have g2 : ¬ 63 < (m : Int) := by omega
  have i1 : (m : Int) < 64 := by omega
  have HS1 := Lib.hid (st_some s hm)
  rw [h] at HS1
  have HS2 := Lib.hid (st_tick s hm)
  have HS5 := Lib.hid (st_rate s hm)
  have HS3 := Lib.hid (st_clr s)
  obtain ⟨to, hto⟩ : ∃ x, x = tkO (s.at' m) := ⟨_, rfl⟩
  rw [← hto] at HS2
  obtain ⟨ro, hro⟩ : ∃ x, x = rtO (s.at' m) := ⟨_, rfl⟩
  rw [← hro] at HS5
  rw [hc] at HS3
  clear h hto hro
  go_enter Try.func23, Try.ntmps23
  go_wp2_with (first
    | (refine wpList_boxS rfl _ rfl s rfl ?_; rintro w1 - HB1 HL1 hs1)
    | (refine wpList_allocS rfl rfl ?_; rintro w2 - HZ2 HL2 hs2; have HB2 := Lib.hid (HB1.out.below HL2.out); have HL2' := Lib.hid (bmore HL1.out HL2.out HL1.out.size); have HNE : Hid (¬ w1.heap.size = w.heap.size) := (by show ¬ _; have := hs1.out; omega); have a1 := HB2.out.cell _ HS1.out; have a2 := HB2.out.cell _ HS2.out; have a3 := HB2.out.cell _ HS3.out; have a5 := HB2.out.cell _ HS5.out; have f0 := HB2.out.frozen (m * 3); have f1 := HB2.out.frozen (m * 3 + 1); have f2 := HB2.out.frozen (m * 3 + 2); have f3 := HB2.out.frozen 192; have n0 : ¬ m * 3 = 192 := (by omega); have n1 : ¬ m * 3 + 1 = 192 := (by omega); have n2 : ¬ m * 3 + 2 = 192 := (by omega); have HB4 := Lib.hid (blk_clr (s := ⟨updO s.at' m none, s.clr⟩) (blk_gone HB2.out hm) (-1)); have HZ4 := Lib.hid ((blk_off3 (o0 := m * 3) (o1 := m * 3 + 1) (o2 := m * 3 + 2) (v0 := .bool false) (v1 := .int .i64 0) (v2 := .int .u64 0) HZ2.out HNE.out).setOther (p := ⟨w.heap.size, 192, none⟩) (by simpa using HNE.out) (.int .i64 (-1))); have HL4 := Lib.hid ((below_set3 (o0 := m * 3) (o1 := m * 3 + 1) (o2 := m * 3 + 2) (v0 := .bool false) (v1 := .int .i64 0) (v2 := .int .u64 0) HL2'.out (Nat.le_refl _)).setCell (p := ⟨w.heap.size, 192, none⟩) (Nat.le_refl _) (.int .i64 (-1))); clear HB1 HL1)
    | (refine wpList_loadS rfl _ rfl _ rfl ⟨updO s.at' m none, -1⟩ ?_ ?_; exact HB4.out)
    | (refine wpList_storeS rfl _ _ rfl _ rfl ⟨updO s.at' m none, -1⟩ (st0 0) rfl ?_ ?_; exact HZ4.out; rintro w9 HB9 HK9))
  have HF := Lib.hid (bkeep HL4.out HK9.out (Nat.le_refl _) (fun q h => by have := hs1.out; omega))
  have hr := run_loadVar_row (P := Try.prog) w9 w1.heap.size _ _ _ (0, 0) _ HB9.out Try.underlying45 rfl (by rw [stC_size]; exact info_st1)
  exact bodyPost_ret (v := .tuple #[.agg (stC ⟨updO s.at' m none, -1⟩), .bool true]) (by simp [results, Try.f23, Act.put, asAddr, hr]) rfl ⟨rfl, HF.out⟩

set_option maxRecDepth 100000 in
set_option maxHeartbeats 2000000 in
theorem refleave_other (s : CSt) (m : Nat) (w : World) (hm : m < 64) (h : (s.at' m).isSome = true) (hc : s.clr ≠ m) :
    Calls Try.prog 23 #[.agg (stC s), .int .i64 (m : Int)] w fun e w' => e = .returned (.tuple #[.agg (stC ⟨updO s.at' m none, s.clr⟩), .bool false]) ∧ Below w.heap.size w w' := by
  have g1 : ¬ (m : Int) < 0 := by omega
  have g2 : ¬ 63 < (m : Int) := by omega
  have i1 : (m : Int) < 64 := by omega
  have HS1 := Lib.hid (st_some s hm)
  rw [h] at HS1
  have HS2 := Lib.hid (st_tick s hm)
  have HS5 := Lib.hid (st_rate s hm)
  have HS3 := Lib.hid (st_clr s)
  obtain ⟨to, hto⟩ : ∃ x, x = tkO (s.at' m) := ⟨_, rfl⟩
  rw [← hto] at HS2
  obtain ⟨ro, hro⟩ : ∃ x, x = rtO (s.at' m) := ⟨_, rfl⟩
  rw [← hro] at HS5
  obtain ⟨cc, hcc⟩ : ∃ x, x = s.clr := ⟨_, rfl⟩
  rw [← hcc] at HS3 hc
  have hc2 : (cc == (m : Int)) = false := by simpa using hc
  clear hcc hc
  clear h hto hro
  go_enter Try.func23, Try.ntmps23
  go_wp2_with (first
    | (refine wpList_boxS rfl _ rfl s rfl ?_; rintro w1 - HB1 HL1 hs1)
    | (refine wpList_allocS rfl rfl ?_; rintro w2 - HZ2 HL2 hs2; have HB2 := Lib.hid (HB1.out.below HL2.out); have HL2' := Lib.hid (bmore HL1.out HL2.out HL1.out.size); have HNE : Hid (¬ w1.heap.size = w.heap.size) := (by show ¬ _; have := hs1.out; omega); have a1 := HB2.out.cell _ HS1.out; have a2 := HB2.out.cell _ HS2.out; have a3 := HB2.out.cell _ HS3.out; have a5 := HB2.out.cell _ HS5.out; have f0 := HB2.out.frozen (m * 3); have f1 := HB2.out.frozen (m * 3 + 1); have f2 := HB2.out.frozen (m * 3 + 2); have f3 := HB2.out.frozen 192; have n0 : ¬ m * 3 = 192 := (by omega); have n1 : ¬ m * 3 + 1 = 192 := (by omega); have n2 : ¬ m * 3 + 2 = 192 := (by omega); have HB4 := Lib.hid (blk_gone HB2.out hm); have HZ4 := Lib.hid (blk_off3 (o0 := m * 3) (o1 := m * 3 + 1) (o2 := m * 3 + 2) (v0 := .bool false) (v1 := .int .i64 0) (v2 := .int .u64 0) HZ2.out HNE.out); have HL4 := Lib.hid (below_set3 (o0 := m * 3) (o1 := m * 3 + 1) (o2 := m * 3 + 2) (v0 := .bool false) (v1 := .int .i64 0) (v2 := .int .u64 0) HL2'.out (Nat.le_refl _)); clear HB1 HL1)
    | (refine wpList_loadS rfl _ rfl _ rfl ⟨updO s.at' m none, s.clr⟩ ?_ ?_; exact HB4.out)
    | (refine wpList_storeS rfl _ _ rfl _ rfl ⟨updO s.at' m none, s.clr⟩ (st0 0) rfl ?_ ?_; exact HZ4.out; rintro w9 HB9 HK9))
  have HF := Lib.hid (bkeep HL4.out HK9.out (Nat.le_refl _) (fun q h => by have := hs1.out; omega))
  have hr := run_loadVar_row (P := Try.prog) w9 w1.heap.size _ _ _ (0, 0) _ HB9.out Try.underlying45 rfl (by rw [stC_size]; exact info_st1)
  exact bodyPost_ret (v := .tuple #[.agg (stC ⟨updO s.at' m none, s.clr⟩), .bool false]) (by simp [results, Try.f23, Act.put, asAddr, hr]) rfl ⟨rfl, HF.out⟩
end Go.Proofs.Ythnnhagccemnnaa
