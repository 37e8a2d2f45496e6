/- gaps: the law GapsWaits. -/
import Derived.Test.YtkgngmmlfoiajaaGaps7
namespace Go.Proofs.Ytkgngmmlfoiajaa
open Go.RowKit
set_option linter.unusedVariables false
set_option linter.unusedSimpArgs false

def WaitOk (f lg bl n : Int) : Prop := 1 ≤ f ∧ f ≤ 300 ∧ f ≤ lg ∧ lg ≤ 3000 ∧ 0 ≤ bl ∧ bl < 16384 ∧ 0 ≤ n ∧ n ≤ 12
set_option maxRecDepth 100000 in
set_option maxHeartbeats 1000000 in
theorem gapsWaits_no (f lg bl n : Int) (w : World) (h : ¬ WaitOk f lg bl n) :
    Calls Try.prog 3 #[.agg #[.int .i64 f, .int .i64 lg, .int .i64 bl, .int .i64 n]] w fun e w' => e = .returned (.bool true) ∧ Below w.heap.size w w' := by
  unfold WaitOk at h
  obtain ⟨x0, x1, x2, x3⟩ := blk4 (Blk.new w #[.int .i64 f, .int .i64 lg, .int .i64 bl, .int .i64 n] 23)
  have HBA := Lib.hid ((Below.refl w.heap.size w).alloc (Nat.le_refl _) (.cells #[.int .i64 f, .int .i64 lg, .int .i64 bl, .int .i64 n] 23))
  rcases (by omega : f < 1 ∨ (1 ≤ f ∧ 300 < f) ∨ (1 ≤ f ∧ f ≤ 300 ∧ lg < f) ∨ (1 ≤ f ∧ f ≤ 300 ∧ f ≤ lg ∧ 3000 < lg) ∨ (1 ≤ f ∧ f ≤ 300 ∧ f ≤ lg ∧ lg ≤ 3000 ∧ bl < 0) ∨ (1 ≤ f ∧ f ≤ 300 ∧ f ≤ lg ∧ lg ≤ 3000 ∧ 0 ≤ bl ∧ 16384 ≤ bl) ∨
    (1 ≤ f ∧ f ≤ 300 ∧ f ≤ lg ∧ lg ≤ 3000 ∧ 0 ≤ bl ∧ bl < 16384 ∧ n < 0) ∨ (1 ≤ f ∧ f ≤ 300 ∧ f ≤ lg ∧ lg ≤ 3000 ∧ 0 ≤ bl ∧ bl < 16384 ∧ 0 ≤ n ∧ 12 < n)) with
    g1 | ⟨g1, g2⟩ | ⟨g1, g2, g3⟩ | ⟨g1, g2, g3, g4⟩ | ⟨g1, g2, g3, g4, g5⟩ | ⟨g1, g2, g3, g4, g5, g6⟩ | ⟨g1, g2, g3, g4, g5, g6, g7⟩ | ⟨g1, g2, g3, g4, g5, g6, g7, g8⟩
  all_goals
    clear h
    go_enter Try.func3, Try.ntmps3
    go_wp2_with fail
    go_quiet (fail)
    go_wp2_with fail
    refine (awake_any _).mono ?_
    rintro e w2 ⟨rfl, hb2⟩
    have hq := bmore (below_drewN HBA.out nq) hb2 (by simp)
    go_wp2
    go_ret
    exact ⟨rfl, hq⟩

theorem miss1 (bl f : Int) : missN [] bl 7 f 1 = ([⟨bl, 7, f, 0⟩], 1) := by
  unfold missN missN
  simp [has, lk, ins]
theorem tired1 (h : Hole) (t : Int) (e : t ≤ h.tries) : tiredL t [h] = [h.block] := by simp [tiredL, e]
theorem tired0 (h : Hole) (t : Int) (e : ¬ t ≤ h.tries) : tiredL t [h] = [] := by simp [tiredL, e]
theorem ask0 (h : Hole) (now lg : Int) (e : now < h.due) : askL now 9 lg [h] = ([h], []) := by
  unfold askL; split
  · simp [askGo, e]
  · rfl
theorem ask1h (h : Hole) (now lg : Int) (e : h.due ≤ now) (ht : inT now = true) : askL now 9 lg [h] = ([ask1 now lg h], [(h.block, h.block + 1)]) := by
  unfold askL; rw [if_pos ht]
  have e' : ¬ now < h.due := by omega
  simp [askGo, e', touch]
  decide

/-- the one hole, at a round -/
structure WtAt (w0 w : World) (b : Nat) (v : Value) (h : Hole) (f lg : Int) : Prop where
  gp : GpAt w b v [h] f lg
  own : ∀ g, v.ownBlock = some g → w0.heap.size ≤ g
  bel : Below w0.heap.size w0 w
  lo : w0.heap.size ≤ b
theorem WtAt.below {w0 w w' : World} {b : Nat} {v : Value} {h : Hole} {f lg : Int} (k : WtAt w0 w b v h f lg) (hb : Below w.heap.size w w') : WtAt w0 w' b v h f lg := ⟨k.gp.below hb, k.own, bmore k.bel hb k.bel.size, k.lo⟩
theorem WtAt.ask {w0 w w' : World} {b : Nat} {v : Value} {h h' : Hole} {f lg : Int} (k : WtAt w0 w b v h f lg) (hg : GpAt w' b v [h'] f lg) (hk : Keep (fun k => v.ownBlock = some k) w w') : WtAt w0 w' b v h' f lg := ⟨hg, k.own, bkeep k.bel hk (Nat.le_refl _) k.own, k.lo⟩

set_option maxRecDepth 100000 in
set_option maxHeartbeats 4000000 in
theorem gapsWaits_yes (f lg bl : Int) (n : Nat) (w : World) (h : WaitOk f lg bl n) :
    Calls Try.prog 3 #[.agg #[.int .i64 f, .int .i64 lg, .int .i64 bl, .int .i64 n]] w fun e w' => e = .returned (.bool true) ∧ Below w.heap.size w w' := by
  obtain ⟨k1, k2, k3, k4, k5, k6, k7, k8⟩ := h
  have HNW := Lib.hid (fun w => new_ok f lg w (by omega) (by omega) (by omega) (by omega))
  have HMS := Lib.hid @miss_ok
  have HAK := Lib.hid @ask_any
  have HTD := Lib.hid @tired_any
  obtain ⟨x0, x1, x2, x3⟩ := blk4 (Blk.new w #[.int .i64 f, .int .i64 lg, .int .i64 bl, .int .i64 n] 23)
  have HBA := Lib.hid ((Below.refl w.heap.size w).alloc (Nat.le_refl _) (.cells #[.int .i64 f, .int .i64 lg, .int .i64 bl, .int .i64 n] 23))
  go_enter Try.func3, Try.ntmps3
  go_wp2_with fail
  go_quiet (fail)
  go_wp2_with fail
  refine (HNW.out _).mono ?_
  rintro e w1 ⟨rfl, h0, hb1⟩
  have HB1 := Lib.hid (bmore (below_drewN HBA.out nq) hb1 (by simp))
  have hlo : w.heap.size ≤ ((w.alloc (.cells #[.int .i64 f, .int .i64 lg, .int .i64 bl, .int .i64 n] 23)).drewN nq).heap.size := by simp
  generalize ((w.alloc (.cells #[.int .i64 f, .int .i64 lg, .int .i64 bl, .int .i64 n] 23)).drewN nq).heap.size = b at *
  have H0 := Lib.hid h0
  clear h0 hb1 x0 x1 x2 x3 HBA
  go_wp2_with fail
  refine (HMS.out 0 _ _ _ f lg bl (bl + 1) 7 w1 H0.out (rl_nil 0) (by decide) (by omega) (by omega) (by omega) (by decide) (by omega) (by omega)).mono ?_
  rintro e w2 ⟨rfl, ⟨v2, h2, ho2, hk2⟩⟩
  have e2 : missN [] bl 7 f (bl + 1 - bl : Int).toNat = ([⟨bl, 7, f, 0⟩], 1) := by rw [show (bl + 1 - bl : Int).toNat = 1 by omega]; exact miss1 bl f
  rw [e2] at h2 ⊢
  have HW2 : Hid (WtAt w w2 b v2 ⟨bl, 7, f, 0⟩ f lg) :=
    ⟨h2, fun g hg => (ho2 g hg).elim (fun h => by cases h) (fun h => Nat.le_trans HB1.out.size h), bkeep HB1.out hk2 (Nat.le_refl _) (fun k hk => hk.elim (fun e => by omega) (fun h => by cases h)), hlo⟩
  clear h2 ho2 hk2 e2
  go_wp2_with fail
  go_loopw [11, 12, 13, 82] (fun du wt _ i wr => ∃ (k : Nat) (D W : Int), k ≤ n ∧ i = .int .i64 k ∧ du = .int .i64 D ∧ wt = .int .i64 W ∧ 7 ≤ D ∧ D ≤ 7 + 3000 * k ∧ 1 ≤ W ∧ W ≤ 3000 ∧ Hid (WtAt w wr b v2 ⟨bl, D, W, k⟩ f lg)) (fun _ _ _ i _ => n - (intOf i).toNat)
  case atStart => exact ⟨0, 7, f, by omega, rfl, rfl, rfl, by omega, by omega, by omega, by omega, HW2⟩
  case round =>
    obtain ⟨k, D, W, hk, rfl, rfl, rfl, d1, d2, w1', w2', HK⟩ := hrel
    have hk12 : k ≤ 12 := by omega
    by_cases hlt : k < n
    · have i1 : (k : Int) + 1 ≤ 13 := by omega
      go_wp2_with fail
      have hq := HTD.out b v2 _ f lg (k : Int) wr HK.out.gp (by simp)
      rw [tired1 ⟨bl, D, W, k⟩ k (Int.le_refl _)] at hq
      refine hq.mono ?_
      rintro e wa ⟨Aa, ca, rfl, -, hba⟩
      have HKa := Lib.hid (HK.out.below hba)
      clear hq hba
      go_wp2_with fail
      have hq := HTD.out b v2 _ f lg ((k : Int) + 1) wa HKa.out.gp (by simp)
      rw [tired0 ⟨bl, D, W, k⟩ (k + 1) (by simp only; omega)] at hq
      refine hq.mono ?_
      rintro e wb ⟨Ab, cb, rfl, -, hbb⟩
      have HKb := Lib.hid (HKa.out.below hbb)
      clear hq hbb
      have hrl : Rl 12 [(⟨bl, D, W, k⟩ : Hole)] := ⟨by rw [rising_pair]; simp, fun o ho => by
        obtain rfl : o = ⟨bl, D, W, k⟩ := by simpa using ho
        exact ⟨k5, k6, by simp only; omega, by simp only; omega, w1', by simp only; omega, by simp only; omega, by simp only; omega⟩⟩
      have HRL := Lib.hid hrl
      clear hrl
      go_wp2_with fail
      have hq := HAK.out 12 b v2 _ f lg (D - 1) 9 wb HKb.out.gp HRL.out (by decide) (by simp) (by omega) (by omega)
      rw [ask0 ⟨bl, D, W, k⟩ (D - 1) lg (by simp only; omega)] at hq
      refine hq.mono ?_
      rintro e wc ⟨Ac, cc, rfl, hgc, -, hkc⟩
      have HKc := Lib.hid (HKb.out.ask hgc hkc)
      clear hq hgc hkc
      go_wp2_with fail
      have hq := HAK.out 12 b v2 _ f lg D 9 wc HKc.out.gp HRL.out (by decide) (by simp) (by omega) (by omega)
      rw [ask1h ⟨bl, D, W, k⟩ D lg (Int.le_refl _) (inT_iff.2 ⟨by omega, by omega⟩)] at hq
      refine hq.mono ?_
      rintro e wd ⟨Ad, cd, rfl, hgd, hrd, hkd⟩
      have HKd := Lib.hid (HKc.out.ask hgd hkd)
      have HRD := Lib.hid (Reads.of_owns hrd)
      clear hq hgd hrd hkd
      go_wp2_with fail
      have hpw := pairs_yes Ad (some ⟨wd.heap.size, 0, none⟩) cd 1 1 [(bl, bl + 1)] (wd.alloc (.cells #[.int .i64 bl, .int .i64 (bl + 1)] 36)) (HRD.out.alloc _) (Reads.new wd _ _ 1 2 rfl (by decide)) (by decide) rfl
      refine hpw.mono ?_
      rintro e we ⟨rfl, j, rfl⟩
      have HKe : Hid (WtAt w ((wd.alloc (.cells #[.int .i64 bl, .int .i64 (bl + 1)] 36)).drewN j) b v2 (ask1 D lg ⟨bl, D, W, k⟩) f lg) := HKd.out.below (below_drewN ((Below.refl _ wd).alloc (Nat.le_refl _) _) j)
      clear hpw
      go_wp2_with fail
      go_roundw
      case rel => exact ⟨k + 1, D + W, min (2 * W) lg, by omega, by go_num, rfl, rfl, by omega, by omega, by omega, by omega, HKe⟩
      case measure => simp [intOf]; omega
    · obtain rfl : k = n := by omega
      go_wp2_with fail
      refine (awake_any _).mono ?_
      rintro e w3 ⟨rfl, hb3⟩
      have hq := bmore HK.out.bel hb3 HK.out.bel.size
      go_wp2
      go_ret
      exact ⟨rfl, hq⟩
end Go.Proofs.Ytkgngmmlfoiajaa
