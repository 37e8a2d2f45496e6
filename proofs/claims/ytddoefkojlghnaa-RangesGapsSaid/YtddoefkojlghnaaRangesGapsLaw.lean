/- ranges: the law RangesGaps. -/
import Derived.Test.YtddoefkojlghnaaRangesPlayed
import Derived.Test.YtddoefkojlghnaaRanges12
namespace Go.Proofs.Ytddoefkojlghnaa
open Go.RowKit
set_option linter.unusedVariables false
set_option linter.unusedSimpArgs false

set_option maxRecDepth 100000 in
set_option maxHeartbeats 4000000 in
theorem rangesGaps_any (v : Value) (l : List (Int × Int × Int)) (a b : Int) (w : World) (h : Reads w 3 v l.length (l.flatMap opCells)) :
    Calls Try.prog 7 #[v, .int .i64 a, .int .i64 b] w fun e w' => e = .returned (.bool true) ∧ Below w.heap.size w w' := by
  have HAW := Lib.hid awake_any
  have HPL := Lib.hid (fun h1 => played_any v l w h h1)
  have HGP := Lib.hid @gaps_any
  have hrs := fun (h1 : 0 ≤ a) (h2 : b ≤ 16384) (L : List (Int × Int)) (v : Value) (w : World) (hr : Reads w 1 v 16384 (bitV 16384 (cov L))) => refstr_any v (cov L) a b false w hr h1 h2
  rw [show b01 false = 0 from rfl] at hrs
  have HRS := Lib.hid hrs
  have HPY := Lib.hid @pairs_yes
  obtain ⟨A0, k0, rfl, -⟩ := h.val
  obtain ⟨m, hm⟩ : ∃ m, m = l.length := ⟨_, rfl⟩
  have HM := Lib.hid hm
  rw [← hm] at HPL ⊢
  clear h hm hrs
  by_cases hle : m ≤ 12
  · go_enter Try.func7, Try.ntmps7
    go_wp2_with fail
    refine (HPL.out (by omega)).mono ?_
    rintro e w1 ⟨b0, v0, L, A, k, rfl, HP, HB⟩
    have HG := Lib.hid (HGP.out b0 v0 L (tot L) a b w1 HP.out.at_ HP.out.good)
    go_wp2_with fail
    refine HG.out.mono ?_
    rintro e w2 ⟨out, A2, c2, rfl, g2, hc2, hO2, hB2⟩
    have HP2 := Lib.hid (HP.out.below hB2)
    have HB2 : Hid (Below w.heap.size w w2) := bmore HB.out hB2 HB.out.size
    have HO2 := Lib.hid hO2
    have HG2 := Lib.hid g2
    have HC2 := Lib.hid hc2
    clear hB2 hO2 g2 hc2
    cases hr : rightB a b with
    | false =>
      have hn : a < 0 ∨ (¬ a < 0 ∧ 16384 < b) ∨ (¬ a < 0 ∧ ¬ 16384 < b ∧ b < a) := by
        rcases Int.lt_or_le a 0 with h1 | h1
        · exact .inl h1
        · rcases Int.lt_or_le 16384 b with h2 | h2
          · exact .inr (.inl ⟨by omega, h2⟩)
          · rcases Int.lt_or_le b a with h3 | h3
            · exact .inr (.inr ⟨by omega, by omega, h3⟩)
            · rw [rightB_iff.2 ⟨h1, h2, h3⟩] at hr; cases hr
      obtain rfl : out = [] := good_uniq HG2.out (l' := []) (lo' := -1) trivial (fun n => by rw [HC2.out, hr]; rfl)
      clear hr
      rw [List.length_nil]
      rcases hn with n1 | ⟨n1, n2⟩ | ⟨n1, n2, n3⟩
      all_goals
        go_wp2_with fail
        refine (HAW.out _).mono ?_
        rintro e w4 ⟨rfl, hb4⟩
        have HB4 : Hid (Below w.heap.size w w4) := bmore HB2.out hb4 HB2.out.size
        clear hb4
        go_wp2
        go_ret
        exact ⟨rfl, HB4.out⟩
    | true =>
      obtain ⟨r1, r2, r3⟩ := rightB_iff.1 hr
      have n1 : ¬ a < 0 := by omega
      have n2 : ¬ 16384 < b := by omega
      have n3 : ¬ b < a := by omega
      have HR2 := Lib.hid (HRS.out r1 r2 L _ w2 HP2.out.rd)
      have HC3 : Hid (∀ n, cov out n = (inB a b n && !cov L n)) := fun n => by rw [HC2.out, hr, Bool.true_and]
      clear hr
      obtain ⟨m2, hm2⟩ : ∃ m2, m2 = out.length := ⟨_, rfl⟩
      have HM2 := Lib.hid hm2
      rw [← hm2] at HO2 ⊢
      clear hm2
      go_wp2_with fail
      refine HR2.out.mono ?_
      rintro e w3 ⟨S, A3, c3, rfl, gS, hS, hO3, hB3⟩
      obtain rfl : S = out := good_uniq gS HG2.out (fun n => by rw [hS, HC3.out]; cases cov L n <;> rfl)
      have HB3 : Hid (Below w.heap.size w w3) := bmore HB2.out hB3 HB2.out.size
      have hSl := gS.len'
      rw [← HM2.out] at hO3 hSl ⊢
      have HPY3 := Lib.hid (HPY.out A2 A3 c2 c3 m2 S w3 ((Reads.of_owns HO2.out).keep (Keep.none hB3) (fun _ _ _ => id)) (Reads.of_owns hO3) (by omega) HM2.out)
      clear gS hS hO3 hB3
      go_wp2_with fail
      refine HPY3.out.mono ?_
      rintro e w5 ⟨rfl, nd, rfl⟩
      have HB5 : Hid (Below w.heap.size w (w3.drewN nd)) := below_drewN HB3.out nd
      go_wp2_with fail
      refine (HAW.out _).mono ?_
      rintro e w4 ⟨rfl, hb4⟩
      have HB4 : Hid (Below w.heap.size w w4) := bmore HB5.out hb4 HB5.out.size
      clear hb4
      go_wp2
      go_ret
      exact ⟨rfl, HB4.out⟩
  · go_enter Try.func7, Try.ntmps7
    go_wp2_with fail
    refine (HAW.out _).mono ?_
    rintro e w1 ⟨rfl, hb1⟩
    have HB1 := Lib.hid hb1
    clear hb1
    go_wp2
    go_ret
    exact ⟨rfl, HB1.out⟩
end Go.Proofs.Ytddoefkojlghnaa
