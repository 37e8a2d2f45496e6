/- group: awake; the law GroupNew is walked. -/
import Derived.Test.YtbdnopimaofabaaGroupPlayed
namespace Go.Proofs.Ytbdnopimaofabaa
open Go.RowKit
set_option linter.unusedVariables false
set_option linter.unusedSimpArgs false

def awl : List One := [⟨-1, 1, 13, 10⟩, one0]
theorem aw1 (w : World) (b g : Nat) (h : GrpAt w b g 2 (List.replicate 2 one0) 3 5) : Calls Try.prog 19 #[.pointer (some ⟨b, 0, none⟩), .int .i64 0, .int .i64 1, .int .i64 10] w fun e w' => e = .returned (.int .i64 0) ∧ GrpAt w' b g 2 awl 3 5 ∧ Keep (fun k => k = g) w w' :=
  ask_yes b g 2 _ 3 5 1 10 0 one0 w h rfl (by unfold AskOk; simp) (by decide) (by decide)
theorem aw2 (w : World) (b g : Nat) (h : GrpAt w b g 2 awl 3 5) : Calls Try.prog 19 #[.pointer (some ⟨b, 0, none⟩), .int .i64 2, .int .i64 1, .int .i64 10] w fun e w' => e = .returned (.int .i64 11) ∧ w = w' :=
  ask_range b g 2 _ 3 5 2 1 10 w h (by unfold AskOk; simp [awl])
theorem aw3 (w : World) (b g : Nat) (h : GrpAt w b g 2 awl 3 5) : Calls Try.prog 19 #[.pointer (some ⟨b, 0, none⟩), .int .i64 0, .int .i64 1, .int .i64 9] w fun e w' => e = .returned (.int .i64 23) ∧ w = w' :=
  ask_stale b g 2 _ 3 5 1 9 0 _ w h rfl (by unfold AskOk; simp [awl]) (by decide)
theorem aw4 (w : World) (b g : Nat) (h : GrpAt w b g 2 awl 3 5) : Calls Try.prog 11 #[.pointer (some ⟨b, 0, none⟩), .int .i64 0, .int .i64 12] w fun e w' => e = .returned (.tuple #[.int .i64 (-1), .int .i64 0]) ∧ Below w.heap.size w w' :=
  level_yes b g 2 _ 3 5 0 _ 12 w h rfl
theorem aw5 (w : World) (b g : Nat) (h : GrpAt w b g 2 awl 3 5) : Calls Try.prog 11 #[.pointer (some ⟨b, 0, none⟩), .int .i64 0, .int .i64 13] w fun e w' => e = .returned (.tuple #[.int .i64 1, .int .i64 0]) ∧ Below w.heap.size w w' :=
  level_yes b g 2 _ 3 5 0 _ 13 w h rfl
theorem aw6 (w : World) (b g : Nat) (h : GrpAt w b g 2 awl 3 5) : Calls Try.prog 15 #[.pointer (some ⟨b, 0, none⟩), .int .i64 0, .int .i64 13] w fun e w' => ∃ A cc, e = .returned (.slice A 1 cc) ∧ Below w.heap.size w w' :=
  (members_any b g 2 awl 3 5 0 13 w h (by simp [awl])).mono fun e w' ⟨A, cc, he, _, hb⟩ => ⟨A, cc, he, hb⟩
theorem aw8 (w : World) (b g : Nat) (h : GrpAt w b g 2 awl 3 5) : Calls Try.prog 13 #[.pointer (some ⟨b, 0, none⟩), .int .i64 1] w fun e w' => e = .returned (.int .i64 (-1)) ∧ w = w' :=
  asked_yes b g 2 _ 3 5 1 _ w h rfl
theorem aw7 (w : World) (b g : Nat) (h : GrpAt w b g 2 awl 3 5) : Calls Try.prog 14 #[.pointer (some ⟨b, 0, none⟩)] w fun e w' => e = .returned (.int .i64 2) ∧ w = w' :=
  count_any b g 2 _ 3 5 w h

set_option maxRecDepth 100000 in
set_option maxHeartbeats 1000000 in
theorem awake_any (w : World) : Calls Try.prog 8 #[] w fun e w' => e = .returned (.bool true) ∧ Below w.heap.size w w' := by
  have HN := Lib.hid (fun w => new_yes 2 3 5 w (by unfold GrpOk; decide))
  go_enter Try.func8, Try.ntmps8
  go_wp2_with fail
  refine (HN.out _).mono ?_
  rintro e w1 ⟨b, g, rfl, hg1, hbb, hgg, hb1⟩
  have HG1 := Lib.hid hg1
  have HB1 := Lib.hid hb1
  clear hg1 hb1
  go_wp2_with fail
  refine (aw1 _ b g HG1.out).mono ?_
  rintro e w2 ⟨rfl, hg2, k2⟩
  have HG2 := Lib.hid hg2
  have HB2 := Lib.hid (bkeep HB1.out k2 (Nat.le_refl _) (fun k hk => by subst hk; exact hgg))
  clear hg2 k2
  go_wp2_with fail
  refine (aw2 _ b g HG2.out).mono ?_
  rintro e w3 ⟨rfl, rfl⟩
  go_wp2_with fail
  refine (aw3 _ b g HG2.out).mono ?_
  rintro e w3 ⟨rfl, rfl⟩
  go_wp2_with fail
  refine (aw4 _ b g HG2.out).mono ?_
  rintro e w3 ⟨rfl, hb3⟩
  have HG3 := Lib.hid (HG2.out.below hb3)
  have HB3 := Lib.hid (bmore HB2.out hb3 HB2.out.size)
  clear hb3
  go_wp2_with fail
  refine (aw5 _ b g HG3.out).mono ?_
  rintro e w4 ⟨rfl, hb4⟩
  have HG4 := Lib.hid (HG3.out.below hb4)
  have HB4 := Lib.hid (bmore HB3.out hb4 HB3.out.size)
  clear hb4
  go_wp2_with fail
  refine (aw6 _ b g HG4.out).mono ?_
  rintro e w5 ⟨A5, c5, rfl, hb5⟩
  have HG5 := Lib.hid (HG4.out.below hb5)
  have HB5 := Lib.hid (bmore HB4.out hb5 HB4.out.size)
  clear hb5
  go_wp2_with fail
  refine (aw7 _ b g HG5.out).mono ?_
  rintro e w6 ⟨rfl, rfl⟩
  go_wp2_with fail
  refine (aw8 _ b g HG5.out).mono ?_
  rintro e w6 ⟨rfl, rfl⟩
  go_wp2
  go_ret
  exact ⟨rfl, HB5.out⟩

theorem mem_none (n : Nat) (now : Int) (h : 0 ≤ now) (k : Nat) (hk : k ≤ n) : mem (List.replicate n one0) 0 now k = [] := by
  induction k with
  | zero => rfl
  | succ k ih =>
    unfold mem
    rw [if_neg, ih (by omega)]
    rintro ⟨-, h2⟩
    rw [List.getD_eq_getElem?_getD, List.getElem?_replicate, if_pos (by omega)] at h2
    simp [One.at, one0] at h2
    omega

set_option maxRecDepth 100000 in
set_option maxHeartbeats 1000000 in
theorem groupNew_any (n j lv : Int) (w : World) : Calls Try.prog 5 #[.int .i64 n, .int .i64 j, .int .i64 lv] w fun e w' => e = .returned (.bool true) ∧ Below w.heap.size w w' := by
  by_cases hok : GrpOk n j lv
  · obtain ⟨m, rfl⟩ : ∃ m : Nat, n = m := ⟨n.toNat, by have := hok.1; omega⟩
    have hm : m ≤ 64 := by have := hok.2.1; omega
    have HN := Lib.hid (fun w => new_yes m j lv w hok)
    have HR := Lib.hid (fun w => right_yes m j lv none 0 0 w ⟨hok, by omega⟩)
    have hme := mem_none m 1000 (by omega) m (Nat.le_refl _)
    have HM := Lib.hid (fun w b g h => members_any b g m (List.replicate m one0) j lv 0 1000 w h (by rw [List.length_replicate]; exact hm))
    rw [List.length_replicate, hme] at HM
    have HC := Lib.hid (fun w b g h => count_any b g m (List.replicate m one0) j lv w h)
    rw [List.length_replicate] at HC
    clear hok hme
    go_enter Try.func5, Try.ntmps5
    go_wp2_with fail
    refine (HN.out _).mono ?_
    rintro e w1 ⟨b, g, rfl, hg1, hbb, hgg, hb1⟩
    have HG1 := Lib.hid hg1
    have HB1 := Lib.hid hb1
    clear hg1 hb1
    go_wp2_with fail
    refine (HR.out _).mono ?_
    rintro e w2 ⟨rfl, hb2⟩
    have HG2 := Lib.hid (HG1.out.below hb2)
    have HB2 := Lib.hid (bmore HB1.out hb2 HB1.out.size)
    clear hb2
    go_wp2_with fail
    refine (HC.out _ b g HG2.out).mono ?_
    rintro e w3 ⟨rfl, rfl⟩
    go_wp2_with fail
    refine (HM.out _ b g HG2.out).mono ?_
    rintro e w3 ⟨A3, c3, rfl, -, hb3⟩
    have HB3 := Lib.hid (bmore HB2.out hb3 HB2.out.size)
    clear hb3
    go_wp2_with fail
    refine (awake_any _).mono ?_
    rintro e w4 ⟨rfl, hb4⟩
    have HB4 := Lib.hid (bmore HB3.out hb4 HB3.out.size)
    clear hb4
    go_wp2
    go_ret
    exact ⟨rfl, HB4.out⟩
  · have HN := Lib.hid (fun w => new_no n j lv w hok)
    have HR := Lib.hid (fun w => right_no n j lv none 0 0 w (fun h => hok h.1))
    clear hok
    go_enter Try.func5, Try.ntmps5
    go_wp2_with fail
    refine (HN.out _).mono ?_
    rintro e w1 ⟨rfl, rfl⟩
    go_wp2_with fail
    refine (HR.out _).mono ?_
    rintro e w2 ⟨rfl, hb2⟩
    go_wp2_with fail
    refine (awake_any _).mono ?_
    rintro e w3 ⟨rfl, hb3⟩
    have HB3 := Lib.hid (bmore hb2 hb3 hb2.size)
    clear hb2 hb3
    go_wp2
    go_ret
    exact ⟨rfl, HB3.out⟩
end Go.Proofs.Ytbdnopimaofabaa
