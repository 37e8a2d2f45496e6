/- CrcSums: the law's walk. -/
import Derived.Test.YtkencaebmgiakaaCrcAwake
namespace Go.Proofs.Ytkencaebmgiakaa
open Go.RowKit
set_option linter.unusedVariables false
set_option linter.unusedSimpArgs false

set_option maxRecDepth 100000 in
set_option maxHeartbeats 1000000 in
theorem crcSums_any (v1 v2 : Value) (a b : List Nat) (w : World) (h1 : Reads w 1 v1 a.length (u8s a)) (h2 : Reads w 1 v2 b.length (u8s b)) (ha : Bts a) (hb : Bts b) :
    Calls Try.prog 3 #[v1, v2] w fun e w' => e = .returned (.bool true) ∧ Below w.heap.size w w' := by
  have H1 := Lib.hid h1
  have H2 := Lib.hid h2
  obtain ⟨A, c, rfl, -⟩ := h1.val
  obtain ⟨A', c', rfl, -⟩ := h2.val
  clear h1 h2
  rcases (by omega : 1000 < a.length ∨ (a.length ≤ 1000 ∧ 1000 < b.length) ∨ (a.length ≤ 1000 ∧ b.length ≤ 1000)) with g | ⟨g, g2⟩ | ⟨g, g2⟩
  · go_enter Try.func3, Try.ntmps3
    go_wp2_with fail
    refine (awake_any _).mono ?_
    rintro e w1 ⟨rfl, hb1⟩
    go_wp2
    go_ret
    exact ⟨rfl, hb1⟩
  · go_enter Try.func3, Try.ntmps3
    go_wp2_with fail
    refine (awake_any _).mono ?_
    rintro e w1 ⟨rfl, hb1⟩
    go_wp2
    go_ret
    exact ⟨rfl, hb1⟩
  · obtain ⟨i0, hi, hz0, hz1, hz2⟩ := info_parts info_bytes
    go_enter Try.func3, Try.ntmps3
    go_wp2_with (at_builtin; first
      | (refine wpList_appR rfl _ _ 22 rfl w.heap.size 5 i0 (.int .u8 0) 1 1 Try.underlying22 hi hz0 hz1 hz2 rfl _ 0 [] rfl (World.ownsRow_made w #[] 0 (Nat.le_refl _) (Nat.zero_le _) rfl) _ a.length (u8s a) rfl (H1.out.alloc _) (u8s_one _) (by unfold maxLen; omega) (by omega) (by simp) ?_; rintro A2 c2 w2 hown2 hk2 hg2 -; rw [Nat.zero_add] at hown2; simp only [Nat.zero_add] at hg2; have HO2 := Lib.hid hown2; have HS2 : Hid (w.heap.size ≤ w2.heap.size) := Nat.le_trans (by simp) hk2.size; have HR2 : Hid (Reads w2 1 (.slice A' b.length c') b.length (u8s b)) := (H2.out.alloc _).keep hk2 (fun g hg h0 h => by have := H2.out.lt g hg h0; cases h; exact Nat.lt_irrefl _ this); have HK2 := Lib.hid hk2; have HG2 := Lib.hid hg2; clear hown2 hk2 hg2)
      | (refine wpList_appR rfl _ _ 22 rfl w.heap.size 5 i0 (.int .u8 0) 1 1 Try.underlying22 hi hz0 hz1 hz2 rfl _ a.length _ rfl (HO2.out) _ b.length (u8s b) rfl HR2.out (u8s_one _) (by unfold maxLen; omega) (by omega) HS2.out ?_; rintro A3 c3 w3 hown3 hk3 hg3 -; have HO3 := Lib.hid hown3; have HK3 := Lib.hid hk3; have HG3 := Lib.hid hg3; clear hown3 hk3 hg3))
    have HR3 : Hid (Reads w3 1 (.slice A3 (a.length + b.length) c3) (a ++ b).length (u8s (a ++ b))) := by
      have := Reads.of_owns HO3.out
      show Reads _ _ _ _ _
      rw [List.length_append, show u8s (a ++ b) = [] ++ u8s a ++ u8s b by simp [u8s]]
      exact this
    have q2 : Below w.heap.size w w2 := ((Below.refl _ w).alloc (Nat.le_refl _) _).trans (HK2.out.below (fun k hk => by cases hk; exact Nat.le_refl _) (by simp))
    have q3 : Below w.heap.size w w3 := q2.trans (HK3.out.below (fun k hk => by
      rcases HG2.out k hk with h | h
      · cases h; exact Nat.le_refl _
      · exact Nat.le_trans (by simp) h) q2.size)
    have HQ3 := Lib.hid q3
    clear q2 q3
    refine (sum_any _ (a ++ b) _ HR3.out (bts_append ha hb)).mono ?_
    rintro e w4 ⟨rfl, rfl⟩
    go_wp2_with fail
    refine (refSum_any _ (a ++ b) _ HR3.out (bts_append ha hb)).mono ?_
    rintro e w5 ⟨rfl, m, rfl⟩
    go_wp2_with fail
    refine (sum_any _ a _ ((H1.out.below HQ3.out).drewN m) ha).mono ?_
    rintro e w6 ⟨rfl, rfl⟩
    go_wp2_with fail
    refine (more_any _ (csum_lt a) _ b _ ((H2.out.below HQ3.out).drewN m) hb).mono ?_
    rintro e w7 ⟨rfl, rfl⟩
    rw [cmore_append a b ha]
    go_wp2_with fail
    refine (sum_any _ (a ++ b) _ (HR3.out.drewN m) (bts_append ha hb)).mono ?_
    rintro e w8 ⟨rfl, rfl⟩
    go_wp2_with fail
    refine (awake_any _).mono ?_
    rintro e w9 ⟨rfl, hb9⟩
    go_wp2
    go_ret
    exact ⟨rfl, (below_drewN HQ3.out m).trans (hb9.mono (below_drewN HQ3.out m).size)⟩
end Go.Proofs.Ytkencaebmgiakaa
