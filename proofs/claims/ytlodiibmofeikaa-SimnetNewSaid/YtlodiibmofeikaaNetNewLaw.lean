/- simnet: the law SimnetNew, given its awake. -/
import Derived.Test.YtlodiibmofeikaaNetRight
import Derived.Test.YtlodiibmofeikaaNetTake
namespace Go.Proofs.Ytlodiibmofeikaa
open Go.RowKit
set_option linter.unusedVariables false
set_option linter.unusedSimpArgs false

set_option maxRecDepth 100000 in
set_option maxHeartbeats 2000000 in
theorem simnetNew_of (HAW : ∀ w : World, Calls Try.prog 7 #[] w fun e w' => e = .returned (.bool true) ∧ Below w.heap.size w w') (rc delay room j lv : Int) (w : World) :
    Calls Try.prog 4 #[.agg #[.int .i64 rc, .int .i64 delay, .int .i64 room, .int .i64 j, .int .i64 lv]] w fun e w' => e = .returned (.bool true) ∧ Below w.heap.size w w' := by
  have HA := Lib.hid HAW
  have HB := Lib.hid ((Below.refl _ w).alloc (Nat.le_refl _) (.cells #[.int .i64 rc, .int .i64 delay, .int .i64 room, .int .i64 j, .int .i64 lv] 30))
  have HC := Lib.hid (Blk.new w #[.int .i64 rc, .int .i64 delay, .int .i64 room, .int .i64 j, .int .i64 lv] 30)
  obtain ⟨y0, y1, y2, y3, y4⟩ := blk5' HC.out
  by_cases h : CfgOk rc delay room j lv
  · obtain ⟨n, rfl⟩ : ∃ n : Nat, rc = n := ⟨rc.toNat, by have := h.rc; omega⟩
    have hn1 : 1 ≤ n ∧ n ≤ 64 := by have := h.rc; omega
    have HN := Lib.hid (fun w => netNew_ok n delay room j lv none 0 [] w h (Reads.nil w 2) (by simp))
    have HR := Lib.hid (fun w => right_yes n delay room j lv w h)
    clear h HAW
    go_enter Try.func4, Try.ntmps4
    go_wp2_with fail
    generalize w.alloc (.cells #[.int .i64 n, .int .i64 delay, .int .i64 room, .int .i64 j, .int .i64 lv] 30) = wz at *
    refine (HN.out wz).mono ?_
    rintro e w1 ⟨nb, rfl, ⟨col, gb, gg, pv, P, fv, hnt, hpl, hnp, -⟩, hb1⟩
    have HB1 := Lib.hid (bmore HB.out hb1 HB.out.size)
    have HNT := Lib.hid hnt
    have HC1 := Lib.hid (HC.out.below hb1)
    obtain ⟨p, hp⟩ : ∃ p, P[0]? = some p := ⟨_, List.getElem?_eq_getElem (by omega)⟩
    have HP := Lib.hid hp
    have HP0 : Hid (p.l = []) := hnp p (List.mem_of_getElem? hp)
    have HPL : Hid (P.length ≤ 1000) := by show _ ≤ _; omega
    clear hnt hpl hnp hp hb1 y0 y1 y2 y3 y4
    obtain ⟨y0, y1, y2, y3, y4⟩ := blk5' HC1.out
    go_wp2_with fail
    refine (HR.out w1).mono ?_
    rintro e w2 ⟨rfl, hb2⟩
    have HN2 := Lib.hid (HNT.out.below hb2)
    have HB2 := Lib.hid (bmore HB1.out hb2 HB1.out.size)
    clear hb2 y0 y1 y2 y3 y4
    go_wp2_with fail
    refine (netUsed_any HN2.out).mono ?_
    rintro e w3 ⟨rfl, rfl⟩
    go_wp2_with fail
    refine (netStats_any HN2.out).mono ?_
    rintro e w3 ⟨rfl, hb3⟩
    have HN3 := Lib.hid (HN2.out.below hb3)
    have HB3 := Lib.hid (bmore HB2.out hb3 HB2.out.size)
    obtain ⟨n0, -⟩ := blk11 HN3.out.str
    clear hb3
    unfold stN0
    go_wp2_with fail
    refine (level_yes gb gg n (List.replicate n one0) j lv 0 one0 5 w3 HN3.out.grp (by rw [List.getElem?_replicate]; simp; omega)).mono ?_
    rintro e w4 ⟨rfl, hb4⟩
    have HN4 := Lib.hid (HN3.out.below hb4)
    have HB4 := Lib.hid (bmore HB3.out hb4 HB3.out.size)
    rw [show one0.at 5 = -1 from rfl]
    clear hb4
    go_wp2_with fail
    refine (waiting_yes HN4.out 0 p HP.out (by simp; omega) HPL.out).mono ?_
    rw [HP0.out]
    rintro e w5 ⟨rfl, rfl⟩
    go_wp2_with fail
    refine (HA.out w4).mono ?_
    rintro e w6 ⟨rfl, hb6⟩
    have HB6 := Lib.hid (bmore HB4.out hb6 HB4.out.size)
    clear hb6
    go_wp2
    go_ret
    exact ⟨rfl, HB6.out⟩
  · have HN := Lib.hid (fun w => netNew_no rc delay room j lv w h)
    have HR := Lib.hid (fun w => right_no rc delay room j lv w h)
    clear h HAW
    go_enter Try.func4, Try.ntmps4
    go_wp2_with fail
    generalize w.alloc (.cells #[.int .i64 rc, .int .i64 delay, .int .i64 room, .int .i64 j, .int .i64 lv] 30) = wz at *
    refine (HN.out wz).mono ?_
    rintro e w1 ⟨rfl, hb1⟩
    have HC1 := Lib.hid (HC.out.below hb1)
    have HB1 := Lib.hid (bmore HB.out hb1 HB.out.size)
    clear hb1 y0 y1 y2 y3 y4
    obtain ⟨y0, y1, y2, y3, y4⟩ := blk5' HC1.out
    go_wp2_with fail
    refine (HR.out w1).mono ?_
    rintro e w2 ⟨rfl, hb2⟩
    have HB2 := Lib.hid (bmore HB1.out hb2 HB1.out.size)
    clear hb2 y0 y1 y2 y3 y4
    go_wp2_with fail
    refine (HA.out w2).mono ?_
    rintro e w3 ⟨rfl, hb3⟩
    have HB3 := Lib.hid (bmore HB2.out hb3 HB2.out.size)
    clear hb3
    go_wp2
    go_ret
    exact ⟨rfl, HB3.out⟩
end Go.Proofs.Ytlodiibmofeikaa
