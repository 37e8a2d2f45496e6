/- ranges: pairs; the law's awake. -/
import Derived.Test.YtddoefkojlghnaaRangesHas
import Derived.Test.YtddoefkojlghnaaRangesStr
namespace Go.Proofs.Ytddoefkojlghnaa
open Go.RowKit
set_option linter.unusedVariables false
set_option linter.unusedSimpArgs false

set_option maxRecDepth 100000 in
set_option maxHeartbeats 1000000 in
theorem pairs_yes (A B : Option Addr) (c d n : Nat) (x : List (Int × Int)) (w : World) (hx : Reads w 2 (.slice A n c) n (x.flatMap pairCells)) (hy : Reads w 2 (.slice B n d) n (x.flatMap pairCells)) (hn : n ≤ 1000000) (hl : n = x.length) :
    Calls Try.prog 10 #[.slice A n c, .slice B n d] w fun e w' => e = .returned (.bool true) ∧ ∃ n, w' = w.drewN n := by
  have HX := Lib.hid hx
  have HY := Lib.hid hy
  have HL := Lib.hid hl
  clear hx hy hl
  have pe := pair_eq
  go_enter Try.func10, Try.ntmps10
  go_wp2
  go_loopw [5, 13] (fun _ i wr => ∃ k m : Nat, k ≤ n ∧ i = .int .i64 k ∧ Hid (wr = w.drewN m)) (fun _ i _ => n - (intOf i).toNat)
  case atStart => exact ⟨0, 0, by omega, rfl, rfl⟩
  case round =>
    obtain ⟨k, m, hk, rfl, HW⟩ := hrel
    by_cases hlt : k < n
    · obtain ⟨a, ha⟩ : ∃ a, x[k]? = some a := ⟨_, List.getElem?_eq_getElem (by rw [← HL.out]; exact hlt)⟩
      obtain ⟨g1, p1, c1, he1, a0, a1⟩ := (HX.out.drewN m).pair ha
      obtain ⟨g2, p2, c2, he2, b0, b1⟩ := (HY.out.drewN m).pair ha
      rw [← HW.out] at a0 a1 b0 b1
      cases he1
      cases he2
      have i1 : (0 : Int) ≤ (k : Int) := by omega
      have i2 : (k : Int) < (n : Int) := by omega
      have t1 : (a.1 == a.1) = true := by simp
      have t2 : (a.2 == a.2) = true := by simp
      clear ha
      go_wp2_with fail
      go_quiet (fail)
      go_wp2
      go_roundw
      case rel => exact ⟨k + 1, m + nq, by omega, by go_num, Lib.hid (by rw [HW.out]; simp [World.drewN, Nat.add_assoc])⟩
      case measure => simp [intOf]; omega
    · obtain rfl : k = n := by omega
      go_wp2
      go_ret
      exact ⟨rfl, m, HW.out⟩

set_option maxRecDepth 100000 in
set_option maxHeartbeats 4000000 in
theorem awake_any (w : World) : Calls Try.prog 8 #[] w fun e w' => e = .returned (.bool true) ∧ Below w.heap.size w w' := by
  have HNW := Lib.hid (new_any w)
  have HAD := Lib.hid @add_any
  have HST := Lib.hid @str_any
  have HHS := Lib.hid @has_any
  have g1 : Good (-1) [((0 : Int), (3 : Int))] := by simp [Good]
  have g2 : Good (-1) [((0 : Int), (3 : Int)), (5, 8)] := by simp [Good]
  have g3 : Good (-1) [((0 : Int), (8 : Int))] := by simp [Good]
  have m1 : ∀ n : Int, cov [((0 : Int), (3 : Int))] n = (cov [] n || (rightB 0 3 && (decide (0 ≤ n) && decide (n < 3)))) := by intro n; rw [Bool.eq_iff_iff]; simp [cov, rightB]
  have m2 : ∀ n : Int, cov [((0 : Int), (3 : Int)), (5, 8)] n = (cov [((0 : Int), (3 : Int))] n || (rightB 5 8 && (decide (5 ≤ n) && decide (n < 8)))) := by intro n; rw [Bool.eq_iff_iff]; simp [cov, rightB]
  have m3 : ∀ n : Int, cov [((0 : Int), (8 : Int))] n = (cov [((0 : Int), (3 : Int)), (5, 8)] n || (rightB 3 5 && (decide (3 ≤ n) && decide (n < 5)))) := by intro n; rw [Bool.eq_iff_iff]; simp [cov, rightB]; omega
  have m4 : ∀ n : Int, cov [((0 : Int), (8 : Int))] n = (cov [((0 : Int), (8 : Int))] n || (rightB 5 4 && (decide (5 ≤ n) && decide (n < 4)))) := by intro n; rw [Bool.eq_iff_iff]; simp [cov, rightB]
  have G1 := Lib.hid g1
  have G2 := Lib.hid g2
  have G3 := Lib.hid g3
  have M1 := Lib.hid m1
  have M2 := Lib.hid m2
  have M3 := Lib.hid m3
  have M4 := Lib.hid m4
  have pe := Lib.hid pair_eq
  clear g1 g2 g3 m1 m2 m3 m4
  go_enter Try.func8, Try.ntmps8
  go_wp2_with fail
  refine HNW.out.mono ?_
  rintro e w1 ⟨rfl, h0, hb1⟩
  have H0 := Lib.hid h0
  have HB1 := Lib.hid hb1
  clear h0 hb1
  go_wp2_with fail
  refine (HAD.out _ _ _ 0 3 w1 H0.out trivial).mono ?_
  intro e w2 hr
  obtain ⟨rfl, v2, H2, V2, HB2⟩ := hr.at G1.out M1.out HB1.out (Nat.le_refl _) (Nat.le_refl _) (fun g hg => by cases hg)
  rw [show tot [((0 : Int), (3 : Int))] - tot [] = 3 by rfl, show (if rightB 0 3 = true then (0 : Int) else 11) = 0 by rfl]
  clear hr
  go_wp2_with fail
  refine (HAD.out _ _ _ 5 8 w2 H2.out G1.out).mono ?_
  intro e w3 hr
  obtain ⟨rfl, v3, H3, V3, HB3⟩ := hr.at G2.out M2.out HB2.out (Nat.le_refl _) (Nat.le_refl _) V2.out
  rw [show tot [((0 : Int), (3 : Int)), (5, 8)] - tot [((0 : Int), (3 : Int))] = 3 by rfl, show (if rightB 5 8 = true then (0 : Int) else 11) = 0 by rfl]
  clear hr
  go_wp2_with fail
  refine (HAD.out _ _ _ 3 5 w3 H3.out G2.out).mono ?_
  intro e w4 hr
  obtain ⟨rfl, v4, H4, V4, HB4⟩ := hr.at G3.out M3.out HB3.out (Nat.le_refl _) (Nat.le_refl _) V3.out
  rw [show tot [((0 : Int), (8 : Int))] - tot [((0 : Int), (3 : Int)), (5, 8)] = 2 by rfl, show (if rightB 3 5 = true then (0 : Int) else 11) = 0 by rfl]
  clear hr
  go_wp2_with fail
  refine (HAD.out _ _ _ 5 4 w4 H4.out G3.out).mono ?_
  intro e w5 hr
  obtain ⟨rfl, v5, H5, V5, HB5⟩ := hr.at G3.out M4.out HB4.out (Nat.le_refl _) (Nat.le_refl _) V4.out
  rw [show tot [((0 : Int), (8 : Int))] - tot [((0 : Int), (8 : Int))] = 0 by rfl, show (if rightB 5 4 = true then (0 : Int) else 11) = 11 by rfl]
  clear hr
  go_wp2_with fail
  refine (HST.out _ _ _ _ w5 H5.out (by decide)).mono ?_
  rintro e w6 ⟨A, c, rfl, ho, hb6⟩
  have H6 := Lib.hid (H5.out.below hb6)
  have HB6 := Lib.hid (bmore HB5.out hb6 HB5.out.size)
  obtain ⟨g, o, c', he, a0, a1⟩ := (Reads.of_owns ho).pair (k := 0) (x := (0, 8)) rfl
  cases he
  have pe := pe.out
  simp only [Nat.zero_mul, Nat.add_zero] at a0 a1
  clear ho hb6
  go_wp2_with fail
  clear a0 a1 pe
  refine (HHS.out _ _ _ _ 7 w6 H6.out G3.out (by decide)).mono ?_
  rintro e w7 ⟨rfl, hb7⟩
  have H7 := Lib.hid (H6.out.below hb7)
  have HB7 := Lib.hid (bmore HB6.out hb7 HB6.out.size)
  rw [show cov [((0 : Int), (8 : Int))] 7 = true by rfl]
  clear hb7
  go_wp2_with fail
  refine (HHS.out _ _ _ _ 8 w7 H7.out G3.out (by decide)).mono ?_
  rintro e w8 ⟨rfl, hb8⟩
  have HB8 := Lib.hid (bmore HB7.out hb8 HB7.out.size)
  rw [show cov [((0 : Int), (8 : Int))] 8 = false by rfl]
  clear hb8
  go_wp2
  go_ret
  exact ⟨rfl, HB8.out⟩
end Go.Proofs.Ytddoefkojlghnaa
