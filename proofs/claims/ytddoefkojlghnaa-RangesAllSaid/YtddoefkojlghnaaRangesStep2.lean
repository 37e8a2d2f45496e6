/- ranges: the law's step. -/
import Derived.Test.YtddoefkojlghnaaRangesStep
namespace Go.Proofs.Ytddoefkojlghnaa
open Go.RowKit
set_option linter.unusedVariables false
set_option linter.unusedSimpArgs false

set_option maxRecDepth 100000 in
set_option maxHeartbeats 4000000 in
/-- step, where nothing is called -/
theorem step_none (b : Nat) (v V : Value) (l : List (Int × Int)) (f : Int → Bool) (k a c : Int) (w : World) (h : SetAt w b v l (tot l)) (hg : Good (-1) l) (hr : Reads w 1 V 16384 (bitV 16384 f)) (ha : ∀ g, V.ownBlock = some g → g ≠ b ∧ v.ownBlock ≠ some g) (h1 : k ≠ 1) (h2 : k ≠ 2) :
    Calls Try.prog 13 #[.pointer (some ⟨b, 0, none⟩), V, .agg #[.int .i64 k, .int .i64 a, .int .i64 c]] w fun e w' => StepR w w' e b v l V f := by
  have HS : Hid (∀ w', Below w.heap.size w w' → StepR w w' (.returned (.tuple #[V, .bool true])) b v l V f) := fun w' hb => StepR.none h hg hr ha hb
  have t1 : (k == 1) = false := by simpa using h1
  have t2 : (k == 2) = false := by simpa using h2
  have t3 : (k != 1) = true := by simpa using h1
  have t4 : (k != 2) = true := by simpa using h2
  clear h hg hr ha h1 h2
  go_enter Try.func13, Try.ntmps13
  go_wp2
  go_ret2
  exact HS.out _ ((Below.refl _ w).alloc (Nat.le_refl _) _)
set_option maxRecDepth 100000 in
set_option maxHeartbeats 4000000 in
/-- step, Add -/
theorem step_add (b : Nat) (v V : Value) (l : List (Int × Int)) (f : Int → Bool) (a c : Int) (w : World) (h : SetAt w b v l (tot l)) (hg : Good (-1) l) (hr : Reads w 1 V 16384 (bitV 16384 f)) (ha : ∀ g, V.ownBlock = some g → g ≠ b ∧ v.ownBlock ≠ some g) :
    Calls Try.prog 13 #[.pointer (some ⟨b, 0, none⟩), V, .agg #[.int .i64 1, .int .i64 a, .int .i64 c]] w fun e w' => StepR w w' e b v l V f := by
  have HA : Hid (∀ wz, Below w.heap.size w wz → Calls Try.prog 22 #[.pointer (some ⟨b, 0, none⟩), .int .i64 a, .int .i64 c] wz fun e w' => OpR true wz w' e b v l a c) := fun wz hb => add_op b v l a c wz (h.below hb) hg
  have hrs := fun w2 (h2 : Reads w2 1 V 16384 (bitV 16384 f)) => refset_any V f a c true w2 h2
  rw [show b01 true = 1 from rfl] at hrs
  have HRS := Lib.hid hrs
  have HBW := Lib.hid h.str.lt
  have HVW := Lib.hid (fun g (hgg : v.ownBlock = some g) => (h.ne hgg).2)
  have HG := Lib.hid hg
  have HR := Lib.hid hr
  have HAP := Lib.hid ha
  obtain ⟨A0, k0, rfl, -⟩ := hr.val
  obtain ⟨wz, hwz⟩ : ∃ wz, wz = w.alloc (.cells #[.int .i64 1, .int .i64 a, .int .i64 c] 35) := ⟨_, rfl⟩
  have HB : Hid (Below w.heap.size w wz) := by show Below _ _ _; rw [hwz]; exact (Below.refl _ w).alloc (Nat.le_refl _) _
  have HK : Hid (Blk wz w.heap.size #[.int .i64 1, .int .i64 a, .int .i64 c] 35) := by show Blk _ _ _ _; rw [hwz]; exact Blk.new w _ _
  have HWZ := Lib.hid hwz
  cases hrt : rightB a c with
  | false =>
    have HF := Lib.hid hrt
    have hn : a < 0 ∨ (¬ a < 0 ∧ 16384 < c) ∨ (¬ a < 0 ∧ ¬ 16384 < c ∧ c < a) := by
      rcases Int.lt_or_le a 0 with h1 | h1
      · exact .inl h1
      · rcases Int.lt_or_le 16384 c with h2 | h2
        · exact .inr (.inl ⟨by omega, h2⟩)
        · rcases Int.lt_or_le c a with h3 | h3
          · exact .inr (.inr ⟨by omega, by omega, h3⟩)
          · rw [rightB_iff.2 ⟨h1, h2, h3⟩] at hrt; cases hrt
    clear h hg hr ha hrt hrs hwz
    go_enter Try.func13, Try.ntmps13
    go_wp2_with fail
    rw [← HWZ.out]
    refine (HA.out wz HB.out).mono ?_
    rintro e w2 h2
    have HK2 : Hid (Blk w2 w.heap.size #[.int .i64 1, .int .i64 a, .int .i64 c] 35) := HK.out.keep h2.keep (fun e => e.elim (fun e => by have := HBW.out; omega) (fun e => Nat.lt_irrefl _ (HVW.out _ e)))
    obtain ⟨rfl, HS⟩ := h2.no HF.out HB.out HBW.out HVW.out HR.out HAP.out HG.out
    obtain ⟨k0, k1, k2⟩ := blk3 HK2.out
    clear h2
    rcases hn with n1 | ⟨n1, n2⟩ | ⟨n1, n2, n3⟩
    all_goals
      go_wp2
      go_ret2
      exact HS.out
  | true =>
    have HF := Lib.hid hrt
    obtain ⟨r1, r2, r3⟩ := rightB_iff.1 hrt
    have n1 : ¬ a < 0 := by omega
    have n2 : ¬ 16384 < c := by omega
    have n3 : ¬ c < a := by omega
    clear h hg hr ha hrt hrs hwz
    go_enter Try.func13, Try.ntmps13
    go_wp2_with fail
    rw [← HWZ.out]
    refine (HA.out wz HB.out).mono ?_
    rintro e w2 h2
    have HK2 : Hid (Blk w2 w.heap.size #[.int .i64 1, .int .i64 a, .int .i64 c] 35) := HK.out.keep h2.keep (fun e => e.elim (fun e => by have := HBW.out; omega) (fun e => Nat.lt_irrefl _ (HVW.out _ e)))
    obtain ⟨T, rfl, HRD, HS⟩ := h2.yes HF.out HB.out HR.out HAP.out
    obtain ⟨k0, k1, k2⟩ := blk3 HK2.out
    have HRS2 := Lib.hid (HRS.out w2 HRD.out)
    obtain ⟨M, hM⟩ : ∃ M, M = chg f a c true 16384 := ⟨_, rfl⟩
    rw [← hM] at HRS2 HS
    clear h2 hM
    cases ht : ((T : Int) == (M : Int)) with
    | true =>
      go_wp2_with fail
      refine HRS2.out.mono ?_
      rintro e w3 ⟨A, k, rfl, ho, hb3⟩
      have HFIN := Lib.hid (HS.out w3 A k true ho hb3 ht.symm)
      clear ho hb3
      go_wp2
      go_ret2
      exact HFIN.out
    | false =>
      go_wp2_with fail
      refine HRS2.out.mono ?_
      rintro e w3 ⟨A, k, rfl, ho, hb3⟩
      have HFIN := Lib.hid (HS.out w3 A k false ho hb3 ht.symm)
      clear ho hb3
      go_wp2
      go_ret2
      exact HFIN.out
set_option maxRecDepth 100000 in
set_option maxHeartbeats 4000000 in
/-- step, Cut -/
theorem step_cut (b : Nat) (v V : Value) (l : List (Int × Int)) (f : Int → Bool) (a c : Int) (w : World) (h : SetAt w b v l (tot l)) (hg : Good (-1) l) (hr : Reads w 1 V 16384 (bitV 16384 f)) (ha : ∀ g, V.ownBlock = some g → g ≠ b ∧ v.ownBlock ≠ some g) :
    Calls Try.prog 13 #[.pointer (some ⟨b, 0, none⟩), V, .agg #[.int .i64 2, .int .i64 a, .int .i64 c]] w fun e w' => StepR w w' e b v l V f := by
  have HA : Hid (∀ wz, Below w.heap.size w wz → Calls Try.prog 25 #[.pointer (some ⟨b, 0, none⟩), .int .i64 a, .int .i64 c] wz fun e w' => OpR false wz w' e b v l a c) := fun wz hb => cut_op b v l a c wz (h.below hb) hg
  have hrs := fun w2 (h2 : Reads w2 1 V 16384 (bitV 16384 f)) => refset_any V f a c false w2 h2
  rw [show b01 false = 0 from rfl] at hrs
  have HRS := Lib.hid hrs
  have HBW := Lib.hid h.str.lt
  have HVW := Lib.hid (fun g (hgg : v.ownBlock = some g) => (h.ne hgg).2)
  have HG := Lib.hid hg
  have HR := Lib.hid hr
  have HAP := Lib.hid ha
  obtain ⟨A0, k0, rfl, -⟩ := hr.val
  obtain ⟨wz, hwz⟩ : ∃ wz, wz = w.alloc (.cells #[.int .i64 2, .int .i64 a, .int .i64 c] 35) := ⟨_, rfl⟩
  have HB : Hid (Below w.heap.size w wz) := by show Below _ _ _; rw [hwz]; exact (Below.refl _ w).alloc (Nat.le_refl _) _
  have HK : Hid (Blk wz w.heap.size #[.int .i64 2, .int .i64 a, .int .i64 c] 35) := by show Blk _ _ _ _; rw [hwz]; exact Blk.new w _ _
  have HWZ := Lib.hid hwz
  cases hrt : rightB a c with
  | false =>
    have HF := Lib.hid hrt
    have hn : a < 0 ∨ (¬ a < 0 ∧ 16384 < c) ∨ (¬ a < 0 ∧ ¬ 16384 < c ∧ c < a) := by
      rcases Int.lt_or_le a 0 with h1 | h1
      · exact .inl h1
      · rcases Int.lt_or_le 16384 c with h2 | h2
        · exact .inr (.inl ⟨by omega, h2⟩)
        · rcases Int.lt_or_le c a with h3 | h3
          · exact .inr (.inr ⟨by omega, by omega, h3⟩)
          · rw [rightB_iff.2 ⟨h1, h2, h3⟩] at hrt; cases hrt
    clear h hg hr ha hrt hrs hwz
    go_enter Try.func13, Try.ntmps13
    go_wp2_with fail
    rw [← HWZ.out]
    refine (HA.out wz HB.out).mono ?_
    rintro e w2 h2
    have HK2 : Hid (Blk w2 w.heap.size #[.int .i64 2, .int .i64 a, .int .i64 c] 35) := HK.out.keep h2.keep (fun e => e.elim (fun e => by have := HBW.out; omega) (fun e => Nat.lt_irrefl _ (HVW.out _ e)))
    obtain ⟨rfl, HS⟩ := h2.no HF.out HB.out HBW.out HVW.out HR.out HAP.out HG.out
    obtain ⟨k0, k1, k2⟩ := blk3 HK2.out
    clear h2
    rcases hn with n1 | ⟨n1, n2⟩ | ⟨n1, n2, n3⟩
    all_goals
      go_wp2
      go_ret2
      exact HS.out
  | true =>
    have HF := Lib.hid hrt
    obtain ⟨r1, r2, r3⟩ := rightB_iff.1 hrt
    have n1 : ¬ a < 0 := by omega
    have n2 : ¬ 16384 < c := by omega
    have n3 : ¬ c < a := by omega
    clear h hg hr ha hrt hrs hwz
    go_enter Try.func13, Try.ntmps13
    go_wp2_with fail
    rw [← HWZ.out]
    refine (HA.out wz HB.out).mono ?_
    rintro e w2 h2
    have HK2 : Hid (Blk w2 w.heap.size #[.int .i64 2, .int .i64 a, .int .i64 c] 35) := HK.out.keep h2.keep (fun e => e.elim (fun e => by have := HBW.out; omega) (fun e => Nat.lt_irrefl _ (HVW.out _ e)))
    obtain ⟨T, rfl, HRD, HS⟩ := h2.yes HF.out HB.out HR.out HAP.out
    obtain ⟨k0, k1, k2⟩ := blk3 HK2.out
    have HRS2 := Lib.hid (HRS.out w2 HRD.out)
    obtain ⟨M, hM⟩ : ∃ M, M = chg f a c false 16384 := ⟨_, rfl⟩
    rw [← hM] at HRS2 HS
    clear h2 hM
    cases ht : ((T : Int) == (M : Int)) with
    | true =>
      go_wp2_with fail
      refine HRS2.out.mono ?_
      rintro e w3 ⟨A, k, rfl, ho, hb3⟩
      have HFIN := Lib.hid (HS.out w3 A k true ho hb3 ht.symm)
      clear ho hb3
      go_wp2
      go_ret2
      exact HFIN.out
    | false =>
      go_wp2_with fail
      refine HRS2.out.mono ?_
      rintro e w3 ⟨A, k, rfl, ho, hb3⟩
      have HFIN := Lib.hid (HS.out w3 A k false ho hb3 ht.symm)
      clear ho hb3
      go_wp2
      go_ret2
      exact HFIN.out
/-- step -/
theorem step_any (b : Nat) (v V : Value) (l : List (Int × Int)) (f : Int → Bool) (k a c : Int) (w : World) (h : SetAt w b v l (tot l)) (hg : Good (-1) l) (hr : Reads w 1 V 16384 (bitV 16384 f)) (ha : ∀ g, V.ownBlock = some g → g ≠ b ∧ v.ownBlock ≠ some g) :
    Calls Try.prog 13 #[.pointer (some ⟨b, 0, none⟩), V, .agg #[.int .i64 k, .int .i64 a, .int .i64 c]] w fun e w' => StepR w w' e b v l V f := by
  by_cases h1 : k = 1
  · subst h1; exact step_add b v V l f a c w h hg hr ha
  · by_cases h2 : k = 2
    · subst h2; exact step_cut b v V l f a c w h hg hr ha
    · exact step_none b v V l f k a c w h hg hr ha h1 h2
end Go.Proofs.Ytddoefkojlghnaa
