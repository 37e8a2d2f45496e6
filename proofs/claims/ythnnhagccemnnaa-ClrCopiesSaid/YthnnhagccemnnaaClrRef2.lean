/- clr: the reference's Take and Leave. -/
import Derived.Test.YthnnhagccemnnaaClrRefP
import Derived.Test.YthnnhagccemnnaaClr4
import Derived.Lib.Hide
namespace Go.Proofs.Ythnnhagccemnnaa
open Go.RowKit
set_option linter.unusedVariables false
set_option linter.unusedSimpArgs false

set_option maxRecDepth 100000 in
set_option maxHeartbeats 400000 in
theorem reftake_range (s : CSt) (lim now : Int) (t : Told) (w : World) (h : t.frm < 0 ∨ 64 ≤ t.frm ∨ ¬ (0 ≤ t.tick ∧ t.tick ≤ 1099511627776) ∨ ¬ (0 ≤ now ∧ now ≤ 1099511627776)) :
    Calls Try.prog 22 #[.agg (stC s), .int .i64 lim, .int .i64 t.frm, .int .i64 t.tick, .int .u64 t.rate, .int .i64 now] w fun e w' => e = .returned (.tuple #[.agg (stC s), .int .i64 11]) ∧ Below w.heap.size w w' := by
  obtain ⟨fr, tk, rt⟩ := t
  simp only at h
  rcases (by omega : fr < 0 ∨ (¬ fr < 0 ∧ 63 < fr) ∨ (¬ fr < 0 ∧ ¬ 63 < fr ∧ tk < 0) ∨ (¬ fr < 0 ∧ ¬ 63 < fr ∧ ¬ tk < 0 ∧ 1099511627776 < tk) ∨ (¬ fr < 0 ∧ ¬ 63 < fr ∧ ¬ tk < 0 ∧ ¬ 1099511627776 < tk ∧ now < 0) ∨ (¬ fr < 0 ∧ ¬ 63 < fr ∧ ¬ tk < 0 ∧ ¬ 1099511627776 < tk ∧ ¬ now < 0 ∧ 1099511627776 < now)) with g1 | ⟨g1, g2⟩ | ⟨g1, g2, g3⟩ | ⟨g1, g2, g3, g4⟩ | ⟨g1, g2, g3, g4, g5⟩ | ⟨g1, g2, g3, g4, g5, g6⟩
  all_goals
    clear h
    go_enter Try.func22, Try.ntmps22
    go_wp2_with (first
      | (refine wpList_boxS rfl _ rfl s rfl ?_; rintro w1 - HB1 HL1 hs1)
      | (refine wpList_allocS rfl rfl ?_; rintro w2 - HZ2 HL2 hs2; have HB2 := Lib.hid (HB1.out.below HL2.out); have HL2' := Lib.hid (bmore HL1.out HL2.out HL1.out.size); clear HB1 HL1)
      | (refine wpList_loadS rfl _ rfl _ rfl s ?_ ?_; exact HB2.out)
      | (refine wpList_storeS rfl _ _ rfl _ rfl s (st0 0) rfl ?_ ?_; exact HZ2.out; rintro w9 HB9 HK9))
    have HF := Lib.hid (bkeep HL2'.out HK9.out (Nat.le_refl _) (fun q h => by have := hs1.out; omega))
    have hr := run_loadVar_row (P := Try.prog) w9 w1.heap.size _ _ _ (0, 0) _ HB9.out Try.underlying45 rfl (by rw [stC_size]; exact info_st1)
    exact bodyPost_ret (v := .tuple #[.agg (stC s), .int .i64 11]) (by simp [results, Try.f22, Act.put, asAddr, hr]) rfl ⟨rfl, HF.out⟩

set_option maxRecDepth 100000 in
set_option maxHeartbeats 400000 in
theorem reftake_stale (s : CSt) (lim now : Int) (m : Nat) (tk rt : Int) (w : World) (hm : m < 64) (h1 : 0 ≤ tk) (h2 : tk ≤ 1099511627776) (h3 : 0 ≤ now) (h4 : now ≤ 1099511627776) (h : lim < now - tk ∨ now < tk ∨ ((s.at' m).isSome = true ∧ tk < tkO (s.at' m))) :
    Calls Try.prog 22 #[.agg (stC s), .int .i64 lim, .int .i64 (m : Int), .int .i64 tk, .int .u64 rt, .int .i64 now] w fun e w' => e = .returned (.tuple #[.agg (stC s), .int .i64 23]) ∧ Below w.heap.size w w' := by
  have g1 : ¬ (m : Int) < 0 := by omega
  have g2 : ¬ 63 < (m : Int) := by omega
  have g3 : ¬ tk < 0 := by omega
  have g4 : ¬ 1099511627776 < tk := by omega
  have g5 : ¬ now < 0 := by omega
  have g6 : ¬ 1099511627776 < now := by omega
  have i1 : (m : Int) < 64 := by omega
  have HS1 := Lib.hid (st_some s hm)
  have HS2 := Lib.hid (st_tick s hm)
  obtain ⟨so, hso⟩ : ∃ x, x = (s.at' m).isSome := ⟨_, rfl⟩
  obtain ⟨to, hto⟩ : ∃ x, x = tkO (s.at' m) := ⟨_, rfl⟩
  rw [← hso] at h HS1
  rw [← hto] at h HS2
  clear hso hto
  rcases (by by_cases a : lim < now - tk; · exact .inl a
             · by_cases b : now < tk; · exact .inr (.inl ⟨a, b⟩)
               · exact .inr (.inr ⟨a, b, by rcases h with x | x | x; exact absurd x a; exact absurd x b; exact x⟩) : lim < now - tk ∨ (¬ lim < now - tk ∧ now < tk) ∨ (¬ lim < now - tk ∧ ¬ now < tk ∧ so = true ∧ tk < to)) with k1 | ⟨k1, k2⟩ | ⟨k1, k2, rfl, k3⟩
  all_goals
    clear h
    go_enter Try.func22, Try.ntmps22
    go_wp2_with (first
      | (refine wpList_boxS rfl _ rfl s rfl ?_; rintro w1 - HB1 HL1 hs1)
      | (refine wpList_allocS rfl rfl ?_; rintro w2 - HZ2 HL2 hs2; have HB2 := Lib.hid (HB1.out.below HL2.out); have HL2' := Lib.hid (bmore HL1.out HL2.out HL1.out.size); have a1 := HB2.out.cell _ HS1.out; have a2 := HB2.out.cell _ HS2.out; clear HB1 HL1)
      | (refine wpList_loadS rfl _ rfl _ rfl s ?_ ?_; exact HB2.out)
      | (refine wpList_storeS rfl _ _ rfl _ rfl s (st0 0) rfl ?_ ?_; exact HZ2.out; rintro w9 HB9 HK9))
    have HF := Lib.hid (bkeep HL2'.out HK9.out (Nat.le_refl _) (fun q h => by have := hs1.out; omega))
    have hr := run_loadVar_row (P := Try.prog) w9 w1.heap.size _ _ _ (0, 0) _ HB9.out Try.underlying45 rfl (by rw [stC_size]; exact info_st1)
    exact bodyPost_ret (v := .tuple #[.agg (stC s), .int .i64 23]) (by simp [results, Try.f22, Act.put, asAddr, hr]) rfl ⟨rfl, HF.out⟩

def takC (s : CSt) (m : Nat) (rt : Int) : Int := if s.clr < 0 ∨ rt < rtO (s.at' s.clr.toNat) then (m : Int) else s.clr
set_option maxRecDepth 100000 in
set_option maxHeartbeats 4000000 in
theorem reftake_yes (s : CSt) (lim now : Int) (m : Nat) (tk rt : Int) (w : World) (hm : m < 64) (h1 : 0 ≤ tk) (h2 : tk ≤ 1099511627776) (h3 : 0 ≤ now) (h4 : now ≤ 1099511627776) (k1 : ¬ lim < now - tk) (k2 : ¬ now < tk) (h : (s.at' m).isSome = false ∨ ¬ tk < tkO (s.at' m)) (hc : s.clr < 64) :
    Calls Try.prog 22 #[.agg (stC s), .int .i64 lim, .int .i64 (m : Int), .int .i64 tk, .int .u64 rt, .int .i64 now] w fun e w' => e = .returned (.tuple #[.agg (stC ⟨updO s.at' m (some (tk, rt)), takC s m rt⟩), .int .i64 0]) ∧ Below w.heap.size w w' := by
  have g1 : ¬ (m : Int) < 0 := by omega
  have g2 : ¬ 63 < (m : Int) := by omega
  have g3 : ¬ tk < 0 := by omega
  have g4 : ¬ 1099511627776 < tk := by omega
  have g5 : ¬ now < 0 := by omega
  have g6 : ¬ 1099511627776 < now := by omega
  have i1 : (m : Int) < 64 := by omega
  have HS1 := Lib.hid (st_some s hm)
  have HS2 := Lib.hid (st_tick s hm)
  have HS3 := Lib.hid (st_clr s)
  have HS5 := Lib.hid (st_rate s hm)
  obtain ⟨ro', hro'⟩ : ∃ x, x = rtO (s.at' m) := ⟨_, rfl⟩
  rw [← hro'] at HS5
  obtain ⟨so, hso⟩ : ∃ x, x = (s.at' m).isSome := ⟨_, rfl⟩
  obtain ⟨to, hto⟩ : ∃ x, x = tkO (s.at' m) := ⟨_, rfl⟩
  rw [← hso] at h HS1
  rw [← hto] at h HS2
  clear hso hto hro'
  obtain ⟨c', hc'⟩ : ∃ x, x = takC s m rt := ⟨_, rfl⟩
  rw [← hc']
  unfold takC at hc'
  rcases (by cases so; · exact .inl rfl
             · exact .inr ⟨rfl, h.resolve_left (by simp)⟩ : so = false ∨ (so = true ∧ ¬ tk < to)) with rfl | ⟨rfl, k3⟩
  all_goals
    clear h
    by_cases d1 : s.clr < 0
    · rw [if_pos (.inl d1)] at hc'
      subst hc'
      obtain ⟨cc, hcc⟩ : ∃ x, x = s.clr := ⟨_, rfl⟩
      rw [← hcc] at HS3 d1
      clear hc hcc
      go_enter Try.func22, Try.ntmps22
      go_wp2_with (first
        | (refine wpList_boxS rfl _ rfl s rfl ?_; rintro w1 - HB1 HL1 hs1)
        | (refine wpList_allocS rfl rfl ?_; rintro w2 - HZ2 HL2 hs2; have HB2 := Lib.hid (HB1.out.below HL2.out); have HL2' := Lib.hid (bmore HL1.out HL2.out HL1.out.size); have HNE : Hid (¬ w1.heap.size = w.heap.size) := (by show ¬ _; have := hs1.out; omega); have a1 := HB2.out.cell _ HS1.out; have a2 := HB2.out.cell _ HS2.out; have a3 := HB2.out.cell _ HS3.out; have a5 := HB2.out.cell _ HS5.out; have f0 := HB2.out.frozen (m * 3); have f1 := HB2.out.frozen (m * 3 + 1); have f2 := HB2.out.frozen (m * 3 + 2); have f3 := HB2.out.frozen 192; have HB4 := Lib.hid (blk_put (blk_clr HB2.out (m : Int)) hm tk rt); have HZ4 := Lib.hid (blk_off3 (o0 := m * 3) (o1 := m * 3 + 1) (o2 := m * 3 + 2) (v0 := .bool true) (v1 := .int .i64 tk) (v2 := .int .u64 rt) (HZ2.out.setOther (p := ⟨w.heap.size, 192, none⟩) (by simpa using HNE.out) (.int .i64 (m : Int))) HNE.out); have HL4 := Lib.hid (below_set3 (o0 := m * 3) (o1 := m * 3 + 1) (o2 := m * 3 + 2) (v0 := .bool true) (v1 := .int .i64 tk) (v2 := .int .u64 rt) (HL2'.out.setCell (p := ⟨w.heap.size, 192, none⟩) (Nat.le_refl _) (.int .i64 (m : Int))) (Nat.le_refl _)); clear HB1 HL1)
        | (refine wpList_loadS rfl _ rfl _ rfl ⟨updO s.at' m (some (tk, rt)), (m : Int)⟩ ?_ ?_; exact HB4.out)
        | (refine wpList_storeS rfl _ _ rfl _ rfl ⟨updO s.at' m (some (tk, rt)), (m : Int)⟩ (st0 0) rfl ?_ ?_; exact HZ4.out; rintro w9 HB9 HK9))
      have HF := Lib.hid (bkeep HL4.out HK9.out (Nat.le_refl _) (fun q h => by have := hs1.out; omega))
      have hr := run_loadVar_row (P := Try.prog) w9 w1.heap.size _ _ _ (0, 0) _ HB9.out Try.underlying45 rfl (by rw [stC_size]; exact info_st1)
      exact bodyPost_ret (v := .tuple #[.agg (stC ⟨updO s.at' m (some (tk, rt)), (m : Int)⟩), .int .i64 0]) (by simp [results, Try.f22, Act.put, asAddr, hr]) rfl ⟨rfl, HF.out⟩
    · obtain ⟨q, hq⟩ : ∃ q : Nat, s.clr = q := ⟨s.clr.toNat, by omega⟩
      have hq2 : q < 64 := by omega
      have HS4 := Lib.hid (st_rate s hq2)
      have i2 : (q : Int) < 64 := by omega
      have i3 : ¬ (q : Int) < 0 := by omega
      rw [hq, Int.toNat_natCast] at hc'
      rw [hq] at HS3
      by_cases d2 : rt < rtO (s.at' q)
      · rw [if_pos (.inr d2)] at hc'
        subst hc'
        obtain ⟨ro, hro⟩ : ∃ x, x = rtO (s.at' q) := ⟨_, rfl⟩
        rw [← hro] at HS4 d2
        clear hc d1 hro hq2 hq
        go_enter Try.func22, Try.ntmps22
        go_wp2_with (first
          | (refine wpList_boxS rfl _ rfl s rfl ?_; rintro w1 - HB1 HL1 hs1)
          | (refine wpList_allocS rfl rfl ?_; rintro w2 - HZ2 HL2 hs2; have HB2 := Lib.hid (HB1.out.below HL2.out); have HL2' := Lib.hid (bmore HL1.out HL2.out HL1.out.size); have HNE : Hid (¬ w1.heap.size = w.heap.size) := (by show ¬ _; have := hs1.out; omega); have a1 := HB2.out.cell _ HS1.out; have a2 := HB2.out.cell _ HS2.out; have a3 := HB2.out.cell _ HS3.out; have a5 := HB2.out.cell _ HS5.out; have a4 := HB2.out.cell _ HS4.out; have f0 := HB2.out.frozen (m * 3); have f1 := HB2.out.frozen (m * 3 + 1); have f2 := HB2.out.frozen (m * 3 + 2); have f3 := HB2.out.frozen 192; have HB4 := Lib.hid (blk_put (blk_clr HB2.out (m : Int)) hm tk rt); have HZ4 := Lib.hid (blk_off3 (o0 := m * 3) (o1 := m * 3 + 1) (o2 := m * 3 + 2) (v0 := .bool true) (v1 := .int .i64 tk) (v2 := .int .u64 rt) (HZ2.out.setOther (p := ⟨w.heap.size, 192, none⟩) (by simpa using HNE.out) (.int .i64 (m : Int))) HNE.out); have HL4 := Lib.hid (below_set3 (o0 := m * 3) (o1 := m * 3 + 1) (o2 := m * 3 + 2) (v0 := .bool true) (v1 := .int .i64 tk) (v2 := .int .u64 rt) (HL2'.out.setCell (p := ⟨w.heap.size, 192, none⟩) (Nat.le_refl _) (.int .i64 (m : Int))) (Nat.le_refl _)); clear HB1 HL1)
          | (refine wpList_loadS rfl _ rfl _ rfl ⟨updO s.at' m (some (tk, rt)), (m : Int)⟩ ?_ ?_; exact HB4.out)
          | (refine wpList_storeS rfl _ _ rfl _ rfl ⟨updO s.at' m (some (tk, rt)), (m : Int)⟩ (st0 0) rfl ?_ ?_; exact HZ4.out; rintro w9 HB9 HK9))
        have HF := Lib.hid (bkeep HL4.out HK9.out (Nat.le_refl _) (fun q h => by have := hs1.out; omega))
        have hr := run_loadVar_row (P := Try.prog) w9 w1.heap.size _ _ _ (0, 0) _ HB9.out Try.underlying45 rfl (by rw [stC_size]; exact info_st1)
        exact bodyPost_ret (v := .tuple #[.agg (stC ⟨updO s.at' m (some (tk, rt)), (m : Int)⟩), .int .i64 0]) (by simp [results, Try.f22, Act.put, asAddr, hr]) rfl ⟨rfl, HF.out⟩
      · rw [if_neg (by rintro (x | x); · exact absurd x i3
                       · exact d2 x), ← hq] at hc'
        subst hc'
        obtain ⟨ro, hro⟩ : ∃ x, x = rtO (s.at' q) := ⟨_, rfl⟩
        rw [← hro] at HS4 d2
        clear hc d1 hro hq2 hq
        go_enter Try.func22, Try.ntmps22
        go_wp2_with (first
          | (refine wpList_boxS rfl _ rfl s rfl ?_; rintro w1 - HB1 HL1 hs1)
          | (refine wpList_allocS rfl rfl ?_; rintro w2 - HZ2 HL2 hs2; have HB2 := Lib.hid (HB1.out.below HL2.out); have HL2' := Lib.hid (bmore HL1.out HL2.out HL1.out.size); have HNE : Hid (¬ w1.heap.size = w.heap.size) := (by show ¬ _; have := hs1.out; omega); have a1 := HB2.out.cell _ HS1.out; have a2 := HB2.out.cell _ HS2.out; have a3 := HB2.out.cell _ HS3.out; have a5 := HB2.out.cell _ HS5.out; have a4 := HB2.out.cell _ HS4.out; have f0 := HB2.out.frozen (m * 3); have f1 := HB2.out.frozen (m * 3 + 1); have f2 := HB2.out.frozen (m * 3 + 2); have f3 := HB2.out.frozen 192; have HB4 := Lib.hid (blk_put HB2.out hm tk rt); have HZ4 := Lib.hid (blk_off3 (o0 := m * 3) (o1 := m * 3 + 1) (o2 := m * 3 + 2) (v0 := .bool true) (v1 := .int .i64 tk) (v2 := .int .u64 rt) HZ2.out HNE.out); have HL4 := Lib.hid (below_set3 (o0 := m * 3) (o1 := m * 3 + 1) (o2 := m * 3 + 2) (v0 := .bool true) (v1 := .int .i64 tk) (v2 := .int .u64 rt) HL2'.out (Nat.le_refl _)); clear HB1 HL1)
          | (refine wpList_loadS rfl _ rfl _ rfl ⟨updO s.at' m (some (tk, rt)), s.clr⟩ ?_ ?_; exact HB4.out)
          | (refine wpList_storeS rfl _ _ rfl _ rfl ⟨updO s.at' m (some (tk, rt)), s.clr⟩ (st0 0) rfl ?_ ?_; exact HZ4.out; rintro w9 HB9 HK9))
        have HF := Lib.hid (bkeep HL4.out HK9.out (Nat.le_refl _) (fun q h => by have := hs1.out; omega))
        have hr := run_loadVar_row (P := Try.prog) w9 w1.heap.size _ _ _ (0, 0) _ HB9.out Try.underlying45 rfl (by rw [stC_size]; exact info_st1)
        exact bodyPost_ret (v := .tuple #[.agg (stC ⟨updO s.at' m (some (tk, rt)), s.clr⟩), .int .i64 0]) (by simp [results, Try.f22, Act.put, asAddr, hr]) rfl ⟨rfl, HF.out⟩
end Go.Proofs.Ythnnhagccemnnaa
