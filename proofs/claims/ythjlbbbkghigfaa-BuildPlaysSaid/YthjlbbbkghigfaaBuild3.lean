/- build: Complete, span, Lacking, Prefix, Bytes, Log, Has. -/
import Derived.Test.YthjlbbbkghigfaaBuild2
import Derived.Test.YthjlbbbkghigfaaCloneGiv
import Derived.Test.YthjlbbbkghigfaaFam
import Derived.Lib.MinMax
namespace Go.Proofs.Ythjlbbbkghigfaa
open Go.RowKit
set_option linter.unusedVariables false
set_option linter.unusedSimpArgs false

/-- the blocks that are missing: one list -/
theorem miss_ex (x : BuS) (m : Int) (hg : Good (-1) x.L) (hw : ∃ l, Good (-1) l ∧ ∀ i, cov l i = uptoB x.n m (nb x.s x.k) i) : ∃ M, Good (-1) M ∧ ∀ i, cov M i = (uptoB x.n m (nb x.s x.k) i && !cov x.L i) := by
  obtain ⟨l, g, hc⟩ := hw
  suffices h : ∀ j, ∃ M, Good (-1) M ∧ ∀ i, cov M i = (uptoB x.n m (nb x.s x.k) i && !cov (x.L.take j) i) by
    obtain ⟨M, h1, h2⟩ := h x.L.length
    exact ⟨M, h1, fun i => by rw [h2, List.take_length]⟩
  intro j
  induction j with
  | zero => exact ⟨l, g, fun i => by rw [hc]; simp [cov]⟩
  | succ j ih =>
    obtain ⟨M, h1, h2⟩ := ih
    by_cases hj : j < x.L.length
    · have hx := List.getElem?_eq_getElem hj
      have hm := hg.mem _ (List.mem_of_getElem? hx)
      refine ⟨cutL x.L[j].1 x.L[j].2 M, good_cut hm.2.1 h1, fun i => ?_⟩
      rw [cov_cut (by omega), h2, cov_take_succ hx, cov_one]
      cases uptoB x.n m (nb x.s x.k) i <;> cases cov (x.L.take j) i <;> simp
    · refine ⟨M, h1, fun i => ?_⟩
      rw [h2, List.take_of_length_le (by omega), List.take_of_length_le (by omega)]
set_option maxRecDepth 100000 in
theorem complete_any (x : BuS) (m : Int) (w : World) (h : BuAt w x) (M : List (Int × Int)) (hM : Good (-1) M) (hC : ∀ i, cov M i = (uptoB x.n m (nb x.s x.k) i && !cov x.L i)) :
    Calls Try.prog 21 #[.pointer (some ⟨x.b, 0, none⟩), .int .i64 m] w fun e w' => e = .returned (.bool (decide (M.length = 0))) ∧ Below w.heap.size w w' := by
  have HMS := Lib.hid (missing_any x m w h)
  have HMM := Lib.hid hM
  have HCC := Lib.hid hC
  obtain ⟨q, hq⟩ : ∃ q, q = M.length := ⟨_, rfl⟩
  have HQ := Lib.hid hq
  have e1 : decide (q = 0) = ((q : Int) == 0) := by
    rw [Bool.eq_iff_iff]; simp
  rw [← hq, e1]
  clear h hM hC hq e1
  go_enter Try.func21, Try.ntmps21
  go_wp2_with fail
  refine HMS.out.mono ?_
  rintro e w1 ⟨M', A, c, rfl, g1, c1, -, hb⟩
  obtain rfl : M' = M := good_uniq g1 HMM.out (fun i => by rw [c1, HCC.out])
  rw [← HQ.out]
  have HB := Lib.hid hb
  clear g1 c1 hb
  go_wp2
  go_ret
  exact ⟨rfl, HB.out⟩
/-- a stretch of blocks, as bytes -/
def spanP (x : BuS) (y : Int × Int) : Int × Int := (y.1 * x.k, min (y.2 * x.k) x.s)
set_option maxRecDepth 100000 in
set_option maxHeartbeats 2000000 in
theorem span_any (x : BuS) (a d : Nat) (w : World) (h : BuAt w x) (hac : a ≤ d) (hc : d < nb x.s x.k) :
    Calls Try.prog 41 #[.pointer (some ⟨x.b, 0, none⟩), .agg #[.int .i64 (a : Int), .int .i64 ((d : Int) + 1)]] w fun e w' => e = .returned (.agg #[.int .i64 (spanP x (a, (d : Int) + 1)).1, .int .i64 (spanP x (a, (d : Int) + 1)).2]) ∧ Below w.heap.size w w' := by
  have hz := nb_le h.ok.1 h.ok.2.1
  have hby := fun i hi w h' => bytes_yes x.pb x.s x.k x.n i w h' h.ok hi
  obtain ⟨wz, hwz⟩ : ∃ wz, wz = (w.alloc (.cells #[.int .i64 (a : Int), .int .i64 ((d : Int) + 1)] 46)).alloc (.cells #[.int .i64 0, .int .i64 0] 46) := ⟨_, rfl⟩
  have HWZ := Lib.hid hwz
  have HBZ : Hid (Below w.heap.size w wz) := by show Below _ _ _; rw [hwz]; exact ((Below.refl _ w).alloc (Nat.le_refl _) _).alloc (by simp) _
  obtain ⟨p3, hp3⟩ : ∃ p3, p3 = w.heap.size := ⟨_, rfl⟩
  obtain ⟨p4, hp4⟩ : ∃ p4, p4 = w.heap.size + 1 := ⟨_, rfl⟩
  have HK3 : Hid (Blk wz p3 #[.int .i64 (a : Int), .int .i64 ((d : Int) + 1)] 46) := by show Blk _ _ _ _; rw [hwz, hp3]; exact (Blk.new w _ _).alloc _
  have HK4 : Hid (Blk wz p4 #[.int .i64 0, .int .i64 0] 46) := by
    show Blk _ _ _ _
    rw [hwz, hp4]
    have h := Blk.new (w.alloc (.cells #[.int .i64 (a : Int), .int .i64 ((d : Int) + 1)] 46)) #[.int .i64 0, .int .i64 0] 46
    rwa [World.size_alloc] at h
  have HPS : Hid (p3 = w.heap.size ∧ p4 = w.heap.size + 1) := ⟨hp3, hp4⟩
  have HZ := Lib.hid (h.below HBZ.out)
  obtain ⟨G, hne, F, hF, hG⟩ := fam_of wz
  have HF := Lib.hid hF
  have HG := Lib.hid hG
  have f0 : ∀ g, (F g).cell? ⟨x.b, 0, none⟩ = some (.pointer (some ⟨x.pb, 0, none⟩)) := fun g => (HZ.out.below (hF g)).c.1
  have f1 : ∀ g, (F g).cell? ⟨p3, 0, none⟩ = some (.int .i64 (a : Int)) := fun g => (HK3.out.below (hF g)).cell 0 rfl
  have f2 : ∀ g, (F g).cell? ⟨p3, 1, none⟩ = some (.int .i64 ((d : Int) + 1)) := fun g => (HK3.out.below (hF g)).cell 1 rfl
  have KA : Hid (∀ g, _) := fun g => fam_call hF hG (g := g) (hby a (by omega) (F g) (HZ.out.below (hF g)).plan)
  have KD : Hid (∀ g, _) := fun g => fam_call hF hG (g := g) (hby d (by omega) (F g) (HZ.out.below (hF g)).plan)
  have HD : Hid (∃ g, { wz with drawn := wz.drawn + 1 } = F g) := hG _ (below_drewN (Below.refl _ wz) 1)
  have HFIN : Hid ((spanP x (a, (d : Int) + 1)).1 = ((a * x.k : Nat) : Int) ∧ (spanP x (a, (d : Int) + 1)).2 = min ((d * x.k + x.k : Nat) : Int) x.s) := by
    refine ⟨?_, ?_⟩
    · unfold spanP; simp
    · unfold spanP
      show min (((d : Int) + 1) * (x.k : Int)) (x.s : Int) = _
      rw [Int.add_mul, Int.one_mul]; simp
  rw [HFIN.out.1, HFIN.out.2]
  obtain ⟨fa, hfa⟩ : ∃ fa : Int, fa = ((a * x.k : Nat) : Int) := ⟨_, rfl⟩
  obtain ⟨fd, hfd⟩ : ∃ fd : Int, fd = min ((d * x.k + x.k : Nat) : Int) x.s := ⟨_, rfl⟩
  rw [← hfa, ← hfd]
  have hka := KA.out
  have hkd := KD.out
  rw [← hfa] at hka
  rw [← hfd] at hkd
  clear KA KD
  have KA := Lib.hid hka
  have KD := Lib.hid hkd
  clear h hwz hp3 hp4 hby hF hG hka hkd hfa hfd
  go_enter Try.func41, Try.ntmps41
  go_wp2_with fail
  rw [← HWZ.out, ← HPS.out.2, ← HPS.out.1]
  refine wp_region_fam F (by kernel_rfl) (by kernel_rfl) HD.out ?_
  repeat (go_big_quiet_step (first | (go_at_call 28; exact KA.out _)))
  refine wpQuiet_nil ?_
  intro _ hw'
  obtain ⟨g, hw'⟩ := hw'
  subst hw'
  have HD2 : Hid (∃ g', { F g with drawn := (F g).drawn + 1 } = F g') := HG.out _ (below_drewN (HF.out g) 1)
  go_wp2_with fail
  refine wp_region_fam F (by kernel_rfl) (by kernel_rfl) HD2.out ?_
  repeat (go_big_quiet_step (first | (go_at_call 28; exact KD.out _)))
  refine wpQuiet_nil ?_
  intro _ hw'
  obtain ⟨g2, hw'⟩ := hw'
  subst hw'
  have HK42 : Hid (Blk (F g2) p4 #[.int .i64 0, .int .i64 0] 46) := HK4.out.below (HF.out g2)
  have s0 : (F g2).cell? ⟨p4, 0, none⟩ = some (.int .i64 0) := HK42.out.cell 0 rfl
  have s1 : (F g2).cell? ⟨p4, 1, none⟩ = some (.int .i64 0) := HK42.out.cell 1 rfl
  have s2 : (F g2).frozen? ⟨p4, 0, none⟩ = false := HK42.out.frozen 0
  have s3 : (F g2).frozen? ⟨p4, 1, none⟩ = false := HK42.out.frozen 1
  clear f0 f1 f2
  go_wp2
  have HKF : Blk (((F g2).setCell ⟨p4, 0, none⟩ (.int .i64 fa)).setCell ⟨p4, 1, none⟩ (.int .i64 fd)) p4 #[.int .i64 fa, .int .i64 fd] 46 := (HK42.out.set' (cs' := #[.int .i64 fa, .int .i64 0]) (by simp)).set' (by simp)
  have a0 : (((F g2).setCell ⟨p4, 0, none⟩ (.int .i64 fa)).setCell ⟨p4, 1, none⟩ (.int .i64 fd)).cell? ⟨p4, 0, none⟩ = some (.int .i64 fa) := HKF.cell 0 rfl
  have a1 : (((F g2).setCell ⟨p4, 0, none⟩ (.int .i64 fa)).setCell ⟨p4, 1, none⟩ (.int .i64 fd)).cell? ⟨p4, 1, none⟩ = some (.int .i64 fd) := HKF.cell 1 rfl
  have hb : Below w.heap.size w (((F g2).setCell ⟨p4, 0, none⟩ (.int .i64 fa)).setCell ⟨p4, 1, none⟩ (.int .i64 fd)) := ((bmore HBZ.out (HF.out g2) HBZ.out.size).setCell (p := ⟨p4, 0, none⟩) (by have := HPS.out; simp; omega) _).setCell (p := ⟨p4, 1, none⟩) (by have := HPS.out; simp; omega) _
  refine bodyPost_ret (v := .agg #[.int .i64 fa, .int .i64 fd]) (by simp [results, Try.f41, go_sem, a0, a1]) rfl ⟨rfl, hb⟩
end Go.Proofs.Ythjlbbbkghigfaa
