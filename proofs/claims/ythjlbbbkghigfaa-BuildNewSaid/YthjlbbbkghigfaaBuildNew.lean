/- build: the law BuildNew. -/
import Derived.Test.YthjlbbbkghigfaaBuild8
namespace Go.Proofs.Ythjlbbbkghigfaa
open Go.RowKit
set_option linter.unusedVariables false
set_option linter.unusedSimpArgs false

theorem nb_pos {s k : Nat} (hk : 1 ≤ k) : (0 < nb s k ↔ 0 < s) := by rw [nb_lt hk]; omega
theorem lyr_zero (n : Nat) : lyr n 0 = 0 := by unfold lyr; rw [Nat.zero_mod]; rfl
/-- nothing came: what is missing -/
theorem miss_none {x : BuS} {m : Int} {M : List (Int × Int)} (h : PlanOk x.s x.k x.n) (hL : x.L = []) (hM : Good (-1) M) (hC : ∀ i, cov M i = (uptoB x.n m (nb x.s x.k) i && !cov x.L i)) (hm : 0 ≤ m) :
    (M.length = 0 ↔ x.s = 0) ∧ prefI x M = 0 := by
  have hp := nb_pos (s := x.s) h.2.1
  have h0 : cov M 0 = decide (0 < x.s) := by
    rw [hC, hL]
    unfold uptoB
    rw [show ((0 : Int).toNat) = 0 from rfl, lyr_zero]
    rw [Bool.eq_iff_iff]
    simp [cov]
    omega
  cases M with
  | nil =>
    have : x.s = 0 := by
      have h1 : decide (0 < x.s) = false := h0.symm
      have := of_decide_eq_false h1
      omega
    exact ⟨by simp [this], by show (x.s : Int) = 0; omega⟩
  | cons y r =>
    obtain ⟨g1, g2, g3, g4⟩ := hM
    have h2 := hC y.1
    have h3 : cov (y :: r) y.1 = true := cov_iff.2 ⟨y, by simp, by omega, by omega⟩
    rw [h3] at h2
    have h4 : uptoB x.n m (nb x.s x.k) y.1 = true := by
      cases h : uptoB x.n m (nb x.s x.k) y.1 with
      | true => rfl
      | false => rw [h] at h2; simp at h2
    unfold uptoB at h4
    simp at h4
    have hs : 0 < x.s := by omega
    refine ⟨by simp; omega, ?_⟩
    have h5 : cov (y :: r) 0 = true := by rw [h0]; simp [hs]
    obtain ⟨z, hz, z1, z2⟩ := cov_iff.1 h5
    have hy : y.1 = 0 := by
      rcases List.mem_cons.1 hz with rfl | hz
      · omega
      · have := (g4.mem z hz).1
        omega
    unfold prefI spanP
    simp [hy]
theorem miss_neg {x : BuS} {M : List (Int × Int)} (hC : ∀ i, cov M i = (uptoB x.n (-1) (nb x.s x.k) i && !cov x.L i)) (hM : Good (-1) M) : M.length = 0 := by
  cases M with
  | nil => rfl
  | cons y r =>
    obtain ⟨g1, g2, g3, g4⟩ := hM
    have h2 := hC y.1
    have h3 : cov (y :: r) y.1 = true := cov_iff.2 ⟨y, by simp, by omega, by omega⟩
    rw [h3] at h2
    unfold uptoB at h2
    simp at h2
    omega
set_option maxRecDepth 100000 in
set_option maxHeartbeats 1000000 in
theorem buildNew_no (s k n : Int) (w : World) (h : planB s k n = false) :
    Calls Try.prog 5 #[.int .i64 s, .int .i64 k, .int .i64 n] w fun e w' => e = .returned (.bool true) ∧ Below w.heap.size w w' := by
  have HN := Lib.hid (fun w => bnew_no s k n w h)
  have HAW := Lib.hid awake_any
  have h := of_decide_eq_false h
  have hcs : s < 0 ∨ (¬ s < 0 ∧ 16384 < s) ∨ (¬ s < 0 ∧ ¬ 16384 < s ∧ k < 1) ∨ (¬ s < 0 ∧ ¬ 16384 < s ∧ ¬ k < 1 ∧ 64 < k) ∨ (¬ s < 0 ∧ ¬ 16384 < s ∧ ¬ k < 1 ∧ ¬ 64 < k ∧ n < 1) ∨ (¬ s < 0 ∧ ¬ 16384 < s ∧ ¬ k < 1 ∧ ¬ 64 < k ∧ ¬ n < 1 ∧ 8 < n) := by omega
  clear h
  rcases hcs with h1 | ⟨h1, h2⟩ | ⟨h1, h2, h3⟩ | ⟨h1, h2, h3, h4⟩ | ⟨h1, h2, h3, h4, h5⟩ | ⟨h1, h2, h3, h4, h5, h6⟩
  all_goals
    go_enter Try.func5, Try.ntmps5
    go_wp2_with fail
    refine (HN.out _).mono ?_
    rintro e w3 ⟨rfl, rfl⟩
    go_wp2_with fail
    refine (HAW.out _).mono ?_
    rintro e w3 ⟨rfl, hb⟩
    have HB3 := Lib.hid hb
    clear hb
    go_wp2
    go_ret
    exact ⟨rfl, HB3.out⟩
set_option maxRecDepth 100000 in
set_option maxHeartbeats 2000000 in
theorem buildNew_yes (s k n : Nat) (w : World) (hp : PlanOk s k n) :
    Calls Try.prog 5 #[.int .i64 s, .int .i64 k, .int .i64 n] w fun e w' => e = .returned (.bool true) ∧ Below w.heap.size w w' := by
  have HN := Lib.hid (bnew_yes s k n w hp)
  have HAW := Lib.hid awake_any
  obtain ⟨h1, h2, h3, h4, h5⟩ := hp
  have k1 : ¬ (s : Int) < 0 := by omega
  have k2 : ¬ (16384 : Int) < s := by omega
  have k3 : ¬ (k : Int) < 1 := by omega
  have k4 : ¬ (64 : Int) < k := by omega
  have k5 : ¬ (n : Int) < 1 := by omega
  have k6 : ¬ (8 : Int) < n := by omega
  go_enter Try.func5, Try.ntmps5
  go_wp2_with fail
  refine HN.out.mono ?_
  rintro e w1 ⟨x, rfl, hx, ex, nx, b1⟩
  obtain ⟨M0, g0, c0⟩ := miss_all x 0 hx.out.ok
  obtain ⟨Mn, gn, cn⟩ := miss_all x x.n hx.out.ok
  obtain ⟨Mm, gm, cm⟩ := miss_all x (-1) hx.out.ok
  have a0 := (miss_none hx.out.ok ex.out.2.2.2.1 g0 c0 (by omega)).1
  have an := (miss_none hx.out.ok ex.out.2.2.2.1 gn cn (by omega)).2
  have am := miss_neg cm gm
  have HC0 := Lib.hid (fun w h => complete_any x 0 w h M0 g0 c0)
  have HCm := Lib.hid (fun w h => complete_any x (-1) w h Mm gm cm)
  have HPF := Lib.hid (fun w h => prefix_any x w h Mn gn cn)
  have HBY := Lib.hid (fun w h => bbytes_any x w h)
  have HLG := Lib.hid (fun w h => blog_any x w h (by rw [ex.out.2.2.2.2.2.1]; decide))
  rw [an] at HPF
  rw [decide_eq_true am] at HCm
  have e0 : decide (M0.length = 0) = ((s : Int) == 0) := by
    rw [Bool.eq_iff_iff]; simp only [decide_eq_true_iff, beq_iff_eq]; rw [a0, ex.out.1]; omega
  rw [e0] at HC0
  rw [ex.out.1] at HBY
  rw [ex.out.2.2.2.2.2.1] at HLG
  obtain ⟨q, hq⟩ : ∃ q, q = ((s : Int) == 0) := ⟨_, rfl⟩
  have HQ := Lib.hid hq
  rw [← hq] at HC0
  clear g0 gn gm c0 cn cm a0 an am e0 hq
  go_wp2_with fail
  refine (HBY.out _ hx.out).mono ?_
  rintro e w2 ⟨A, c, rfl, -, hb2⟩
  have H2 := Lib.hid (hx.out.below hb2)
  have f2 := Lib.hid (bmore b1.out hb2 b1.out.size)
  clear hb2
  go_wp2_with fail
  refine (HLG.out _ H2.out).mono ?_
  rintro e w3 ⟨A3, c3, rfl, -, hb3⟩
  have H3 := Lib.hid (H2.out.below hb3)
  have f3 := Lib.hid (bmore f2.out hb3 f2.out.size)
  clear hb3
  go_wp2_with fail
  refine (HPF.out _ H3.out).mono ?_
  rintro e w4 ⟨rfl, hb4⟩
  have H4 := Lib.hid (H3.out.below hb4)
  have f4 := Lib.hid (bmore f3.out hb4 f3.out.size)
  clear hb4
  go_wp2_with fail
  refine (HC0.out _ H4.out).mono ?_
  rintro e w5 ⟨rfl, hb5⟩
  have H5 := Lib.hid (H4.out.below hb5)
  have f5 := Lib.hid (bmore f4.out hb5 f4.out.size)
  have t1 : (q == ((s : Int) == 0)) = true := by rw [HQ.out]; simp
  clear hb5
  go_wp2_with fail
  refine (HCm.out _ H5.out).mono ?_
  rintro e w6 ⟨rfl, hb6⟩
  have f6 := Lib.hid (bmore f5.out hb6 f5.out.size)
  clear hb6
  go_wp2_with fail
  refine (HAW.out _).mono ?_
  rintro e w7 ⟨rfl, hb7⟩
  have f7 := Lib.hid (bmore f6.out hb7 f6.out.size)
  clear hb7
  go_wp2
  go_ret
  exact ⟨rfl, f7.out⟩
theorem buildNew_any (s k n : Int) (w : World) :
    Calls Try.prog 5 #[.int .i64 s, .int .i64 k, .int .i64 n] w fun e w' => e = .returned (.bool true) ∧ Below w.heap.size w w' := by
  cases h : planB s k n with
  | false => exact buildNew_no s k n w h
  | true =>
    obtain ⟨s', k', n', rfl, rfl, rfl, hp⟩ := planB_ok h
    exact buildNew_yes s' k' n' w hp
end Go.Proofs.Ythjlbbbkghigfaa
