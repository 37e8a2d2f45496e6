/- gaps: step: one call of both. -/
import Derived.Test.YtkgngmmlfoiajaaGapsStep
import Derived.Test.YtkgngmmlfoiajaaGaps8
import Derived.Test.YtkgngmmlfoiajaaGapsRef5
import Derived.Test.YtkgngmmlfoiajaaGapsRef6
namespace Go.Proofs.Ytkgngmmlfoiajaa
open Go.RowKit
set_option linter.unusedVariables false
set_option linter.unusedSimpArgs false

/-- the gaps with the holes l, the reference's list with the holes m, since w0 -/
structure St (w0 w : World) (b : Nat) (v xv : Value) (l m : List Hole) (f lg : Int) : Prop where
  gp : GpAt w b v l f lg
  own : ∀ g, v.ownBlock = some g → w0.heap.size ≤ g
  lo : w0.heap.size ≤ b
  bel : Below w0.heap.size w0 w
  rd : Reads w 4 xv m.length (m.flatMap holeCells)
  ap : ∀ g, xv.ownBlock = some g → g ≠ b ∧ v.ownBlock ≠ some g ∧ g < w.heap.size
theorem St.below {w0 w w' : World} {b : Nat} {v xv : Value} {l m : List Hole} {f lg : Int} (h : St w0 w b v xv l m f lg) (hb : Below w.heap.size w w') : St w0 w' b v xv l m f lg :=
  ⟨h.gp.below hb, h.own, h.lo, bmore h.bel hb h.bel.size, h.rd.below hb, fun g hg => ⟨(h.ap g hg).1, (h.ap g hg).2.1, Nat.lt_of_lt_of_le (h.ap g hg).2.2 hb.size⟩⟩
theorem St.drewN {w0 w : World} {b : Nat} {v xv : Value} {l m : List Hole} {f lg : Int} (h : St w0 w b v xv l m f lg) (j : Nat) : St w0 (w.drewN j) b v xv l m f lg := h.below (below_drewN (Below.refl _ w) j)
theorem St.chg2 {w0 w w' : World} {b : Nat} {v xv : Value} {l l' m : List Hole} {f lg : Int} (h : St w0 w b v xv l m f lg) (hc : Chg w w' b v l' f lg) : ∃ v', St w0 w' b v' xv l' m f lg ∧ (∀ g, v'.ownBlock = some g → v.ownBlock = some g ∨ w.heap.size ≤ g) ∧ Keep (fun k => k = b ∨ v.ownBlock = some k) w w' := by
  obtain ⟨v', hg, ho, hk⟩ := hc
  refine ⟨v', ⟨hg, fun g hg' => (ho g hg').elim (h.own g) (fun hh => Nat.le_trans h.bel.size hh), h.lo, bkeep h.bel hk (Nat.le_refl _) (fun k hk' => hk'.elim (fun e => e ▸ h.lo) (h.own k)), h.rd.keep hk (fun g hg' h0 e => e.elim (h.ap g hg').1 (h.ap g hg').2.1), fun g hg' => ⟨(h.ap g hg').1, fun e => ?_, Nat.lt_of_lt_of_le (h.ap g hg').2.2 hk.size⟩⟩, ho, hk⟩
  rcases ho g e with hh | hh
  · exact (h.ap g hg').2.1 hh
  · have := (h.ap g hg').2.2; omega
theorem St.chg {w0 w w' : World} {b : Nat} {v xv : Value} {l l' m : List Hole} {f lg : Int} (h : St w0 w b v xv l m f lg) (hc : Chg w w' b v l' f lg) : ∃ v', St w0 w' b v' xv l' m f lg := by
  obtain ⟨v', h1, -⟩ := h.chg2 hc
  exact ⟨v', h1⟩
/-- another list of the reference's -/
theorem St.other {w0 w3 w4 : World} {b : Nat} {v v4 xv yv : Value} {l l' m m' : List Hole} {f lg : Int} (h3 : St w0 w3 b v xv l m f lg) (h : St w0 w4 b v4 xv l' m f lg) (ho : ∀ g, v4.ownBlock = some g → v.ownBlock = some g ∨ w3.heap.size ≤ g) (hk : Keep (fun k => k = b ∨ v.ownBlock = some k) w3 w4)
    (hr : Reads w3 4 yv m'.length (m'.flatMap holeCells)) (hy : ∀ g, yv.ownBlock = some g → ¬ (g = b ∨ v.ownBlock = some g) ∧ g < w3.heap.size) : St w0 w4 b v4 yv l' m' f lg :=
  ⟨h.gp, h.own, h.lo, h.bel, hr.keep hk (fun g hg _ => (hy g hg).1), fun g hg => ⟨fun e => (hy g hg).1 (.inl e), fun e => (ho g e).elim (fun e => (hy g hg).1 (.inr e)) (fun e => by have := (hy g hg).2; omega), Nat.lt_of_lt_of_le (hy g hg).2 hk.size⟩⟩
theorem St.ask {w0 w w' : World} {b : Nat} {v xv : Value} {l l' m : List Hole} {f lg : Int} (h : St w0 w b v xv l m f lg) (hg : GpAt w' b v l' f lg) (hk : Keep (fun k => v.ownBlock = some k) w w') : St w0 w' b v xv l' m f lg :=
  ⟨hg, h.own, h.lo, bkeep h.bel hk (Nat.le_refl _) h.own, h.rd.keep hk (fun g hg' h0 e => (h.ap g hg').2.1 e), fun g hg => ⟨(h.ap g hg).1, (h.ap g hg).2.1, Nat.lt_of_lt_of_le (h.ap g hg).2.2 hk.size⟩⟩
theorem St.either {w0 w w' : World} {b : Nat} {v xv yv : Value} {l m m' : List Hole} {f lg : Int} (h : St w0 w b v xv l m f lg) (hb : Below w.heap.size w w') (hr : Reads w' 4 yv m'.length (m'.flatMap holeCells)) (ho : ∀ g, yv.ownBlock = some g → xv.ownBlock = some g ∨ (w.heap.size ≤ g ∧ g < w'.heap.size)) : St w0 w' b v yv l m' f lg := by
  refine ⟨h.gp.below hb, h.own, h.lo, bmore h.bel hb h.bel.size, hr, fun g hg => ?_⟩
  rcases ho g hg with hh | ⟨h1, h2⟩
  · exact ⟨(h.ap g hh).1, (h.ap g hh).2.1, Nat.lt_of_lt_of_le (h.ap g hh).2.2 hb.size⟩
  · exact ⟨fun e => by have := h.gp.str.lt; omega, fun e => by have := (h.gp.ne e).2; omega, h2⟩

def MissOk (o : OpD) : Prop := 0 ≤ o.a ∧ o.b ≤ 16384 ∧ o.a ≤ o.b ∧ inT o.now = true
instance (o : OpD) : Decidable (MissOk o) := by unfold MissOk; infer_instance
/-- the holes behind one call -/
def stepL (l : List Hole) (f lg : Int) (o : OpD) : List Hole :=
  if o.kind = 1 then (if MissOk o then (missN l o.a o.now f (o.b - o.a).toNat).1 else l)
  else if o.kind = 2 then drp l o.a
  else if o.kind = 3 then (askL o.now o.a lg l).1
  else if o.kind = 4 then l.map (heard o.l o.now)
  else if o.kind = 5 then drp l o.a
  else l
theorem stepL_rl {K : Nat} {l : List Hole} {f lg : Int} {o : OpD} (h : Rl K l) (hz : RightZ f lg) : Rl (K + 1) (stepL l f lg o) := by
  obtain ⟨z1, z2, z3, z4⟩ := hz
  unfold stepL
  split
  · split
    · rename_i hm
      obtain ⟨m1, m2, m3, m4⟩ := hm
      obtain ⟨n1, n2⟩ := inT_iff.1 m4
      exact (missN_rl h m1 n1 n2 z1 (by omega) (by omega)).1.more
    · exact h.more
  · split
    · exact (h.drp _).more
    · split
      · exact askL_rl h (by omega) z4
      · split
        · exact (heard_rl h).more
        · split
          · exact (h.drp _).more
          · exact h.more
theorem stepL_len {K : Nat} {l : List Hole} {f lg : Int} {o : OpD} (h : Rl K l) (hz : RightZ f lg) (ho : OpOk o) : (stepL l f lg o).length ≤ l.length + 40 := by
  obtain ⟨z1, z2, z3, z4⟩ := hz
  unfold stepL
  split
  · rename_i hk
    split
    · rename_i hm
      obtain ⟨m1, m2, m3, m4⟩ := hm
      obtain ⟨n1, n2⟩ := inT_iff.1 m4
      have := (missN_rl h m1 n1 n2 z1 (by omega) (k := (o.b - o.a).toNat) (by omega)).2.1
      have := ho hk m1 m2 m3
      omega
    · omega
  · have := drp_len (l := l) (r := o.a)
    split
    · omega
    · split
      · rw [askL_len]; omega
      · split
        · simp
        · split <;> omega

/-- what step leaves -/
def StepR (w0 w' : World) (e : Ending) (b : Nat) (l' : List Hole) (f lg : Int) : Prop := ∃ v' yv ok, e = .returned (.tuple #[yv, .bool ok]) ∧ St w0 w' b v' yv l' l' f lg
set_option maxRecDepth 100000 in
set_option maxHeartbeats 2000000 in
theorem step_miss (w0 : World) (K b : Nat) (v xv zv : Value) (l : List Hole) (f lg oa ob on : Int) (ov : Value) (ol : List (Int × Int)) (w : World) (hs : St w0 w b v xv l l f lg) (hr : Rl K l) (hz : RightZ f lg) (hn : l.length ≤ 10000) (hK : K ≤ 10000) (hoi : OpIn w ⟨1, oa, ob, on, ov, ol⟩) (hov : ∀ g, ov.ownBlock = some g → 0 < ol.length → g < w0.heap.size) (hm : MissOk ⟨1, oa, ob, on, ov, ol⟩) :
    Calls Try.prog 14 #[.pointer (some ⟨b, 0, none⟩), xv, .agg #[.int .i64 f, .int .i64 lg, zv], .agg #[.int .i64 1, .int .i64 oa, .int .i64 ob, .int .i64 on, ov]] w fun e w' => StepR w0 w' e b (stepL l f lg ⟨1, oa, ob, on, ov, ol⟩) f lg := by
  obtain ⟨z1, z2, z3, z4⟩ := hz
  have hba : Below w.heap.size w ((w.alloc (.cells #[.int .i64 f, .int .i64 lg, zv] 40)).alloc (.cells #[.int .i64 1, .int .i64 oa, .int .i64 ob, .int .i64 on, ov] 44)) := ((Below.refl _ w).alloc (Nat.le_refl _) _).alloc (by simp) _
  have HS := Lib.hid (hs.below hba)
  have HZ := Lib.hid ((Blk.new w #[.int .i64 f, .int .i64 lg, zv] 40).alloc (.cells #[.int .i64 1, .int .i64 oa, .int .i64 ob, .int .i64 on, ov] 44))
  have hob := Blk.new (w.alloc (.cells #[.int .i64 f, .int .i64 lg, zv] 40)) #[.int .i64 1, .int .i64 oa, .int .i64 ob, .int .i64 on, ov] 44
  rw [show (w.alloc (.cells #[.int .i64 f, .int .i64 lg, zv] 40)).heap.size = w.heap.size + 1 by simp] at hob
  have HO := Lib.hid hob
  have HOI := Lib.hid (hoi.below hba)
  have HOV := Lib.hid hov
  obtain ⟨a0, a1, a2, a3, a4⟩ := blk5 hob
  obtain ⟨b0, b1, b2⟩ := blk3 HZ.out
  obtain ⟨A, c, hxv⟩ : ∃ A c, xv = .slice A l.length c := by obtain ⟨A, c, e, -⟩ := hs.rd.val; exact ⟨A, c, e⟩
  subst hxv
  have hnb : ∀ k, w.heap.size ≤ k → ¬ (k = b ∨ v.ownBlock = some k) := fun k hk h => h.elim (fun e => by have := hs.gp.str.lt; omega) (fun e => by have := (hs.gp.ne e).2; omega)
  have HNB := Lib.hid hnb
  obtain ⟨m1, m2, m3, m4⟩ := hm
  have m1 : 0 ≤ oa := m1
  have m2 : ob ≤ 16384 := m2
  have m3 : oa ≤ ob := m3
  have m4 : inT on = true := m4
  have hsl : stepL l f lg ⟨1, oa, ob, on, ov, ol⟩ = (missN l oa on f (ob - oa).toNat).1 := by unfold stepL; rw [if_pos rfl, if_pos ⟨m1, m2, m3, m4⟩]
  rw [hsl]
  obtain ⟨n1, n2⟩ := inT_iff.1 m4
  have HMS := Lib.hid (miss_ok K b v l f lg oa ob on _ HS.out.gp hr (by omega) m1 m3 m2 m4 z1 (by omega))
  have HRM := Lib.hid (fun A c w h => rmiss2_any K A c l oa ob on f w h hr (by omega) m1 m3 m2 n1 n2 z1 (by omega))
  clear hsl m4
  clear hs hba hob hr hoi hnb hov
  generalize missN l oa on f (ob - oa).toNat = R at *
  go_enter Try.func14, Try.ntmps14
  go_wp2_with fail
  have hsz1 : w.heap.size < ((w.alloc (.cells #[.int .i64 f, .int .i64 lg, zv] 40)).alloc (.cells #[.int .i64 1, .int .i64 oa, .int .i64 ob, .int .i64 on, ov] 44)).heap.size := by simp; omega
  have hsz2 : w.heap.size + 1 < ((w.alloc (.cells #[.int .i64 f, .int .i64 lg, zv] 40)).alloc (.cells #[.int .i64 1, .int .i64 oa, .int .i64 ob, .int .i64 on, ov] 44)).heap.size := by simp
  generalize ((w.alloc (.cells #[.int .i64 f, .int .i64 lg, zv] 40)).alloc (.cells #[.int .i64 1, .int .i64 oa, .int .i64 ob, .int .i64 on, ov] 44)) = w2 at *
  refine HMS.out.mono ?_
  rintro e w3 ⟨rfl, hc⟩
  obtain ⟨v3, hst3⟩ := HS.out.chg hc
  obtain ⟨-, -, -, hkc⟩ := hc
  have HO3 := Lib.hid (HO.out.keep hkc (HNB.out _ (by omega)))
  have HZ3 := Lib.hid (HZ.out.keep hkc (HNB.out _ (by omega)))
  have HS3 := Lib.hid hst3
  clear hkc hst3 a0 a1 a2 a3 a4 b0 b1 b2 HMS
  obtain ⟨a0, a1, a2, a3, a4⟩ := blk5 HO3.out
  obtain ⟨b0, b1, b2⟩ := blk3 HZ3.out
  have l1_3 : w.heap.size < w3.heap.size := HZ3.out.lt
  have l2_3 : w.heap.size + 1 < w3.heap.size := HO3.out.lt
  go_wp2_with fail
  refine (HRM.out A c w3 HS3.out.rd).mono ?_
  rintro e w4 ⟨A4, c4, rfl, ho4, hra⟩
  have hst4 := HS3.out.either hra.bel hra.rd ho4
  have HS4 := Lib.hid hst4
  clear hst4 ho4 hra HRM
  have t1 : (R.2 == R.2) = true := by simp
  go_wp2
  go_ret2
  exact ⟨v3, _, _, rfl, HS4.out⟩
set_option maxRecDepth 100000 in
set_option maxHeartbeats 2000000 in
theorem step_miss_no (w0 : World) (K b : Nat) (v xv zv : Value) (l : List Hole) (f lg oa ob on : Int) (ov : Value) (ol : List (Int × Int)) (w : World) (hs : St w0 w b v xv l l f lg) (hr : Rl K l) (hz : RightZ f lg) (hn : l.length ≤ 10000) (hK : K ≤ 10000) (hoi : OpIn w ⟨1, oa, ob, on, ov, ol⟩) (hov : ∀ g, ov.ownBlock = some g → 0 < ol.length → g < w0.heap.size) (hm : ¬ MissOk ⟨1, oa, ob, on, ov, ol⟩) :
    Calls Try.prog 14 #[.pointer (some ⟨b, 0, none⟩), xv, .agg #[.int .i64 f, .int .i64 lg, zv], .agg #[.int .i64 1, .int .i64 oa, .int .i64 ob, .int .i64 on, ov]] w fun e w' => StepR w0 w' e b (stepL l f lg ⟨1, oa, ob, on, ov, ol⟩) f lg := by
  obtain ⟨z1, z2, z3, z4⟩ := hz
  have hba : Below w.heap.size w ((w.alloc (.cells #[.int .i64 f, .int .i64 lg, zv] 40)).alloc (.cells #[.int .i64 1, .int .i64 oa, .int .i64 ob, .int .i64 on, ov] 44)) := ((Below.refl _ w).alloc (Nat.le_refl _) _).alloc (by simp) _
  have HS := Lib.hid (hs.below hba)
  have HZ := Lib.hid ((Blk.new w #[.int .i64 f, .int .i64 lg, zv] 40).alloc (.cells #[.int .i64 1, .int .i64 oa, .int .i64 ob, .int .i64 on, ov] 44))
  have hob := Blk.new (w.alloc (.cells #[.int .i64 f, .int .i64 lg, zv] 40)) #[.int .i64 1, .int .i64 oa, .int .i64 ob, .int .i64 on, ov] 44
  rw [show (w.alloc (.cells #[.int .i64 f, .int .i64 lg, zv] 40)).heap.size = w.heap.size + 1 by simp] at hob
  have HO := Lib.hid hob
  have HOI := Lib.hid (hoi.below hba)
  have HOV := Lib.hid hov
  obtain ⟨a0, a1, a2, a3, a4⟩ := blk5 hob
  obtain ⟨b0, b1, b2⟩ := blk3 HZ.out
  obtain ⟨A, c, hxv⟩ : ∃ A c, xv = .slice A l.length c := by obtain ⟨A, c, e, -⟩ := hs.rd.val; exact ⟨A, c, e⟩
  subst hxv
  have hnb : ∀ k, w.heap.size ≤ k → ¬ (k = b ∨ v.ownBlock = some k) := fun k hk h => h.elim (fun e => by have := hs.gp.str.lt; omega) (fun e => by have := (hs.gp.ne e).2; omega)
  have HNB := Lib.hid hnb
  have hsl : stepL l f lg ⟨1, oa, ob, on, ov, ol⟩ = l := by unfold stepL; rw [if_pos rfl, if_neg hm]
  rw [hsl]
  have hno : oa < 0 ∨ 16384 < ob ∨ ob < oa ∨ inT on = false := by
    unfold MissOk at hm
    simp only at hm
    by_cases g1 : oa < 0
    · exact .inl g1
    by_cases g2 : 16384 < ob
    · exact .inr (.inl g2)
    by_cases g3 : ob < oa
    · exact .inr (.inr (.inl g3))
    refine .inr (.inr (.inr ?_))
    cases e : inT on with
    | false => rfl
    | true => exact absurd ⟨by omega, by omega, by omega, e⟩ hm
  have HMS := Lib.hid (fun w => miss_no b oa ob on w hno)
  have hcs : oa < 0 ∨ (0 ≤ oa ∧ 16384 < ob) ∨ (0 ≤ oa ∧ ob ≤ 16384 ∧ ob < oa) ∨ (0 ≤ oa ∧ ob ≤ 16384 ∧ oa ≤ ob ∧ on < 0) ∨ (0 ≤ oa ∧ ob ≤ 16384 ∧ oa ≤ ob ∧ 0 ≤ on ∧ 1099511627776 < on) := by
    rcases hno with h | h | h | h
    · omega
    · omega
    · omega
    · have : ¬ (0 ≤ on ∧ on ≤ 1099511627776) := fun h2 => by rw [inT_iff.2 h2] at h; cases h
      omega
  clear hsl hm hno
  clear hs hba hob hr hoi hnb hov
  rcases hcs with h1 | ⟨h1, h2⟩ | ⟨h1, h2, h3⟩ | ⟨h1, h2, h3, h4⟩ | ⟨h1, h2, h3, h4, h5⟩
  all_goals
    go_enter Try.func14, Try.ntmps14
    go_wp2_with fail
    have hsz1 : w.heap.size < ((w.alloc (.cells #[.int .i64 f, .int .i64 lg, zv] 40)).alloc (.cells #[.int .i64 1, .int .i64 oa, .int .i64 ob, .int .i64 on, ov] 44)).heap.size := by simp; omega
    have hsz2 : w.heap.size + 1 < ((w.alloc (.cells #[.int .i64 f, .int .i64 lg, zv] 40)).alloc (.cells #[.int .i64 1, .int .i64 oa, .int .i64 ob, .int .i64 on, ov] 44)).heap.size := by simp
    generalize ((w.alloc (.cells #[.int .i64 f, .int .i64 lg, zv] 40)).alloc (.cells #[.int .i64 1, .int .i64 oa, .int .i64 ob, .int .i64 on, ov] 44)) = w2 at *
    refine (HMS.out _).mono ?_
    rintro e w3 ⟨rfl, rfl⟩
    go_wp2
    go_ret2
    exact ⟨v, _, _, rfl, HS.out⟩
set_option maxRecDepth 100000 in
set_option maxHeartbeats 2000000 in
theorem step_got (w0 : World) (K b : Nat) (v xv zv : Value) (l : List Hole) (f lg oa ob on : Int) (ov : Value) (ol : List (Int × Int)) (w : World) (hs : St w0 w b v xv l l f lg) (hr : Rl K l) (hz : RightZ f lg) (hn : l.length ≤ 10000) (hK : K ≤ 10000) (hoi : OpIn w ⟨2, oa, ob, on, ov, ol⟩) (hov : ∀ g, ov.ownBlock = some g → 0 < ol.length → g < w0.heap.size) :
    Calls Try.prog 14 #[.pointer (some ⟨b, 0, none⟩), xv, .agg #[.int .i64 f, .int .i64 lg, zv], .agg #[.int .i64 2, .int .i64 oa, .int .i64 ob, .int .i64 on, ov]] w fun e w' => StepR w0 w' e b (stepL l f lg ⟨2, oa, ob, on, ov, ol⟩) f lg := by
  obtain ⟨z1, z2, z3, z4⟩ := hz
  have hba : Below w.heap.size w ((w.alloc (.cells #[.int .i64 f, .int .i64 lg, zv] 40)).alloc (.cells #[.int .i64 2, .int .i64 oa, .int .i64 ob, .int .i64 on, ov] 44)) := ((Below.refl _ w).alloc (Nat.le_refl _) _).alloc (by simp) _
  have HS := Lib.hid (hs.below hba)
  have HZ := Lib.hid ((Blk.new w #[.int .i64 f, .int .i64 lg, zv] 40).alloc (.cells #[.int .i64 2, .int .i64 oa, .int .i64 ob, .int .i64 on, ov] 44))
  have hob := Blk.new (w.alloc (.cells #[.int .i64 f, .int .i64 lg, zv] 40)) #[.int .i64 2, .int .i64 oa, .int .i64 ob, .int .i64 on, ov] 44
  rw [show (w.alloc (.cells #[.int .i64 f, .int .i64 lg, zv] 40)).heap.size = w.heap.size + 1 by simp] at hob
  have HO := Lib.hid hob
  have HOI := Lib.hid (hoi.below hba)
  have HOV := Lib.hid hov
  obtain ⟨a0, a1, a2, a3, a4⟩ := blk5 hob
  obtain ⟨b0, b1, b2⟩ := blk3 HZ.out
  obtain ⟨A, c, hxv⟩ : ∃ A c, xv = .slice A l.length c := by obtain ⟨A, c, e, -⟩ := hs.rd.val; exact ⟨A, c, e⟩
  subst hxv
  have hnb : ∀ k, w.heap.size ≤ k → ¬ (k = b ∨ v.ownBlock = some k) := fun k hk h => h.elim (fun e => by have := hs.gp.str.lt; omega) (fun e => by have := (hs.gp.ne e).2; omega)
  have HNB := Lib.hid hnb
  have hsl : stepL l f lg ⟨2, oa, ob, on, ov, ol⟩ = drp l oa := by unfold stepL; rfl
  rw [hsl]
  have HRD := Lib.hid (fun A c w h => rdrop_any A c l.length l oa w h rfl (by omega))
  have HGD := Lib.hid (fun v w h => got_any b v l f lg oa w h hr.ris (by omega))
  have HFD := Lib.hid (fun A c w h => rfind_any A c l.length l oa w h rfl (by omega))
  clear hsl
  clear hs hba hob hr hoi hnb hov
  go_enter Try.func14, Try.ntmps14
  go_wp2_with fail
  have hsz1 : w.heap.size < ((w.alloc (.cells #[.int .i64 f, .int .i64 lg, zv] 40)).alloc (.cells #[.int .i64 2, .int .i64 oa, .int .i64 ob, .int .i64 on, ov] 44)).heap.size := by simp; omega
  have hsz2 : w.heap.size + 1 < ((w.alloc (.cells #[.int .i64 f, .int .i64 lg, zv] 40)).alloc (.cells #[.int .i64 2, .int .i64 oa, .int .i64 ob, .int .i64 on, ov] 44)).heap.size := by simp
  generalize ((w.alloc (.cells #[.int .i64 f, .int .i64 lg, zv] 40)).alloc (.cells #[.int .i64 2, .int .i64 oa, .int .i64 ob, .int .i64 on, ov] 44)) = w2 at *
  go_region_held3 (fun w' => w'.cell? ⟨w.heap.size + 1, 1, none⟩ = some (.int .i64 oa)) (first | assumption | exact d1 | exact d2 | exact d3)
    (first
      | (go_at_call 25; refine (HRD.out A c _ (HS.out.drewN 1).rd).mono ?_; rintro e w3 ⟨A3, c3, rfl, ho3, hb3⟩; have hs3 := (HS.out.drewN 1).below hb3; have hr3 := Reads.of_owns ho3; have hw3 := ho3.lt; have d1 := ((HO.out.drewN 1).below hb3).cell 1 rfl; have HO3 := Lib.hid ((HO.out.drewN 1).below hb3); have HS3 := Lib.hid hs3; have HR3 := Lib.hid hr3; have HW3 := Lib.hid hw3; have HB3 := Lib.hid hb3; clear hs3 hr3 hw3 ho3 hb3)
      | (go_at_call 20; refine (HGD.out v w3 HS3.out.gp).mono ?_; rintro e w4 ⟨rfl, hc⟩; obtain ⟨v4, hs4, ho4, hkc⟩ := HS3.out.chg2 hc; have HOW := Lib.hid ho4; have HO4 := Lib.hid (HO3.out.keep hkc (HNB.out _ (by omega))); have d2 := HO4.out.cell 1 rfl; have HS4 := Lib.hid hs4; have HKC := Lib.hid hkc; clear hs4 hkc ho4 hc)
      | (go_at_call 15; refine (HFD.out A c w4 HS4.out.rd).mono ?_; rintro e w5 ⟨z, hz, rfl, rfl⟩; clear hz))
  all_goals
    have HS5 := Lib.hid (HS3.out.other HS4.out HOW.out HKC.out HR3.out (fun g hg => ⟨HNB.out g (by have := (HW3.out g hg).1; simp at this; omega), (HW3.out g hg).2⟩))
    go_wp2
    go_ret2
    exact ⟨v4, _, _, rfl, HS5.out⟩
set_option maxRecDepth 100000 in
set_option maxHeartbeats 2000000 in
theorem step_drop (w0 : World) (K b : Nat) (v xv zv : Value) (l : List Hole) (f lg oa ob on : Int) (ov : Value) (ol : List (Int × Int)) (w : World) (hs : St w0 w b v xv l l f lg) (hr : Rl K l) (hz : RightZ f lg) (hn : l.length ≤ 10000) (hK : K ≤ 10000) (hoi : OpIn w ⟨5, oa, ob, on, ov, ol⟩) (hov : ∀ g, ov.ownBlock = some g → 0 < ol.length → g < w0.heap.size) :
    Calls Try.prog 14 #[.pointer (some ⟨b, 0, none⟩), xv, .agg #[.int .i64 f, .int .i64 lg, zv], .agg #[.int .i64 5, .int .i64 oa, .int .i64 ob, .int .i64 on, ov]] w fun e w' => StepR w0 w' e b (stepL l f lg ⟨5, oa, ob, on, ov, ol⟩) f lg := by
  obtain ⟨z1, z2, z3, z4⟩ := hz
  have hba : Below w.heap.size w ((w.alloc (.cells #[.int .i64 f, .int .i64 lg, zv] 40)).alloc (.cells #[.int .i64 5, .int .i64 oa, .int .i64 ob, .int .i64 on, ov] 44)) := ((Below.refl _ w).alloc (Nat.le_refl _) _).alloc (by simp) _
  have HS := Lib.hid (hs.below hba)
  have HZ := Lib.hid ((Blk.new w #[.int .i64 f, .int .i64 lg, zv] 40).alloc (.cells #[.int .i64 5, .int .i64 oa, .int .i64 ob, .int .i64 on, ov] 44))
  have hob := Blk.new (w.alloc (.cells #[.int .i64 f, .int .i64 lg, zv] 40)) #[.int .i64 5, .int .i64 oa, .int .i64 ob, .int .i64 on, ov] 44
  rw [show (w.alloc (.cells #[.int .i64 f, .int .i64 lg, zv] 40)).heap.size = w.heap.size + 1 by simp] at hob
  have HO := Lib.hid hob
  have HOI := Lib.hid (hoi.below hba)
  have HOV := Lib.hid hov
  obtain ⟨a0, a1, a2, a3, a4⟩ := blk5 hob
  obtain ⟨b0, b1, b2⟩ := blk3 HZ.out
  obtain ⟨A, c, hxv⟩ : ∃ A c, xv = .slice A l.length c := by obtain ⟨A, c, e, -⟩ := hs.rd.val; exact ⟨A, c, e⟩
  subst hxv
  have hnb : ∀ k, w.heap.size ≤ k → ¬ (k = b ∨ v.ownBlock = some k) := fun k hk h => h.elim (fun e => by have := hs.gp.str.lt; omega) (fun e => by have := (hs.gp.ne e).2; omega)
  have HNB := Lib.hid hnb
  have hsl : stepL l f lg ⟨5, oa, ob, on, ov, ol⟩ = drp l oa := by unfold stepL; rfl
  rw [hsl]
  have HRD := Lib.hid (fun A c w h => rdrop_any A c l.length l oa w h rfl (by omega))
  have HGD := Lib.hid (fun v w h => drop_any b v l f lg oa w h hr.ris (by omega))
  have HFD := Lib.hid (fun A c w h => rfind_any A c l.length l oa w h rfl (by omega))
  clear hsl
  clear hs hba hob hr hoi hnb hov
  go_enter Try.func14, Try.ntmps14
  go_wp2_with fail
  have hsz1 : w.heap.size < ((w.alloc (.cells #[.int .i64 f, .int .i64 lg, zv] 40)).alloc (.cells #[.int .i64 5, .int .i64 oa, .int .i64 ob, .int .i64 on, ov] 44)).heap.size := by simp; omega
  have hsz2 : w.heap.size + 1 < ((w.alloc (.cells #[.int .i64 f, .int .i64 lg, zv] 40)).alloc (.cells #[.int .i64 5, .int .i64 oa, .int .i64 ob, .int .i64 on, ov] 44)).heap.size := by simp
  generalize ((w.alloc (.cells #[.int .i64 f, .int .i64 lg, zv] 40)).alloc (.cells #[.int .i64 5, .int .i64 oa, .int .i64 ob, .int .i64 on, ov] 44)) = w2 at *
  go_region_held3 (fun w' => w'.cell? ⟨w.heap.size + 1, 1, none⟩ = some (.int .i64 oa)) (first | assumption | exact d1 | exact d2 | exact d3)
    (first
      | (go_at_call 25; refine (HRD.out A c _ (HS.out.drewN 1).rd).mono ?_; rintro e w3 ⟨A3, c3, rfl, ho3, hb3⟩; have hs3 := (HS.out.drewN 1).below hb3; have hr3 := Reads.of_owns ho3; have hw3 := ho3.lt; have d1 := ((HO.out.drewN 1).below hb3).cell 1 rfl; have HO3 := Lib.hid ((HO.out.drewN 1).below hb3); have HS3 := Lib.hid hs3; have HR3 := Lib.hid hr3; have HW3 := Lib.hid hw3; have HB3 := Lib.hid hb3; clear hs3 hr3 hw3 ho3 hb3)
      | (go_at_call 17; refine (HGD.out v w3 HS3.out.gp).mono ?_; rintro e w4 ⟨rfl, hc⟩; obtain ⟨v4, hs4, ho4, hkc⟩ := HS3.out.chg2 hc; have HOW := Lib.hid ho4; have HO4 := Lib.hid (HO3.out.keep hkc (HNB.out _ (by omega))); have d2 := HO4.out.cell 1 rfl; have HS4 := Lib.hid hs4; have HKC := Lib.hid hkc; clear hs4 hkc ho4 hc)
      | (go_at_call 15; refine (HFD.out A c w4 HS4.out.rd).mono ?_; rintro e w5 ⟨z, hz, rfl, rfl⟩; clear hz))
  all_goals
    have HS5 := Lib.hid (HS3.out.other HS4.out HOW.out HKC.out HR3.out (fun g hg => ⟨HNB.out g (by have := (HW3.out g hg).1; simp at this; omega), (HW3.out g hg).2⟩))
    go_wp2
    go_ret2
    exact ⟨v4, _, _, rfl, HS5.out⟩
set_option maxRecDepth 100000 in
set_option maxHeartbeats 2000000 in
theorem step_ask (w0 : World) (K b : Nat) (v xv zv : Value) (l : List Hole) (f lg oa ob on : Int) (ov : Value) (ol : List (Int × Int)) (w : World) (hs : St w0 w b v xv l l f lg) (hr : Rl K l) (hz : RightZ f lg) (hn : l.length ≤ 10000) (hK : K ≤ 10000) (hoi : OpIn w ⟨3, oa, ob, on, ov, ol⟩) (hov : ∀ g, ov.ownBlock = some g → 0 < ol.length → g < w0.heap.size) :
    Calls Try.prog 14 #[.pointer (some ⟨b, 0, none⟩), xv, .agg #[.int .i64 f, .int .i64 lg, zv], .agg #[.int .i64 3, .int .i64 oa, .int .i64 ob, .int .i64 on, ov]] w fun e w' => StepR w0 w' e b (stepL l f lg ⟨3, oa, ob, on, ov, ol⟩) f lg := by
  obtain ⟨z1, z2, z3, z4⟩ := hz
  have hba : Below w.heap.size w ((w.alloc (.cells #[.int .i64 f, .int .i64 lg, zv] 40)).alloc (.cells #[.int .i64 3, .int .i64 oa, .int .i64 ob, .int .i64 on, ov] 44)) := ((Below.refl _ w).alloc (Nat.le_refl _) _).alloc (by simp) _
  have HS := Lib.hid (hs.below hba)
  have HZ := Lib.hid ((Blk.new w #[.int .i64 f, .int .i64 lg, zv] 40).alloc (.cells #[.int .i64 3, .int .i64 oa, .int .i64 ob, .int .i64 on, ov] 44))
  have hob := Blk.new (w.alloc (.cells #[.int .i64 f, .int .i64 lg, zv] 40)) #[.int .i64 3, .int .i64 oa, .int .i64 ob, .int .i64 on, ov] 44
  rw [show (w.alloc (.cells #[.int .i64 f, .int .i64 lg, zv] 40)).heap.size = w.heap.size + 1 by simp] at hob
  have HO := Lib.hid hob
  have HOI := Lib.hid (hoi.below hba)
  have HOV := Lib.hid hov
  obtain ⟨a0, a1, a2, a3, a4⟩ := blk5 hob
  obtain ⟨b0, b1, b2⟩ := blk3 HZ.out
  obtain ⟨A, c, hxv⟩ : ∃ A c, xv = .slice A l.length c := by obtain ⟨A, c, e, -⟩ := hs.rd.val; exact ⟨A, c, e⟩
  subst hxv
  have hnb : ∀ k, w.heap.size ≤ k → ¬ (k = b ∨ v.ownBlock = some k) := fun k hk h => h.elim (fun e => by have := hs.gp.str.lt; omega) (fun e => by have := (hs.gp.ne e).2; omega)
  have HNB := Lib.hid hnb
  have hsl : stepL l f lg ⟨3, oa, ob, on, ov, ol⟩ = (askL on oa lg l).1 := by unfold stepL; rfl
  rw [hsl]
  have HRA := Lib.hid (rask_any K A c l.length l on oa lg _ HS.out.rd rfl (by omega) hr (by omega) (by omega) z4)
  have HGA := Lib.hid (fun w h => ask_any K b v l f lg on oa w h hr (by omega) (by omega) (by omega) z4)
  have HAL := Lib.hid (askL_len (now := on) (most := oa) (lg := lg) (l := l))
  clear hsl
  clear hs hba hob hr hoi hnb hov
  generalize askL on oa lg l = R at *
  go_enter Try.func14, Try.ntmps14
  go_wp2_with fail
  have hsz1 : w.heap.size < ((w.alloc (.cells #[.int .i64 f, .int .i64 lg, zv] 40)).alloc (.cells #[.int .i64 3, .int .i64 oa, .int .i64 ob, .int .i64 on, ov] 44)).heap.size := by simp; omega
  have hsz2 : w.heap.size + 1 < ((w.alloc (.cells #[.int .i64 f, .int .i64 lg, zv] 40)).alloc (.cells #[.int .i64 3, .int .i64 oa, .int .i64 ob, .int .i64 on, ov] 44)).heap.size := by simp
  generalize ((w.alloc (.cells #[.int .i64 f, .int .i64 lg, zv] 40)).alloc (.cells #[.int .i64 3, .int .i64 oa, .int .i64 ob, .int .i64 on, ov] 44)) = w2 at *
  refine HRA.out.mono ?_
  rintro e w3 ⟨vo, va, na, rfl, hra⟩
  have hs3 := HS.out.below hra.bel
  have HRB := Lib.hid hra.bel
  have HO3 := Lib.hid (HO.out.below hra.bel)
  have HZ3 := Lib.hid (HZ.out.below hra.bel)
  have HS3 := Lib.hid hs3
  have HRR := Lib.hid hra
  clear hs3 hra a0 a1 a2 a3 a4 b0 b1 b2
  obtain ⟨a0, a1, a2, a3, a4⟩ := blk5 HO3.out
  obtain ⟨b0, b1, b2⟩ := blk3 HZ3.out
  have l1_3 : w.heap.size < w3.heap.size := HZ3.out.lt
  have l2_3 : w.heap.size + 1 < w3.heap.size := HO3.out.lt
  go_wp2_with fail
  refine (HGA.out w3 HS3.out.gp).mono ?_
  rintro e w4 ⟨A4, c4, rfl, hg4, hr4, hk4⟩
  have hnbv : ∀ g, w2.heap.size ≤ g → v.ownBlock ≠ some g := fun g hg e => HNB.out g (by omega) (.inr e)
  have hs4 := HS3.out.ask hg4 hk4
  have hyr : Reads w3 4 vo l.length (R.1.flatMap holeCells) := Reads.of_owns HRR.out.ro
  have hs5 : St w0 w4 b v vo R.1 R.1 f lg := ⟨hs4.gp, hs4.own, hs4.lo, hs4.bel, by rw [HAL.out]; exact hyr.keep hk4 (fun g hg _ e => hnbv g (HRR.out.ro.lt g hg).1 e), fun g hg => ⟨fun e => HNB.out g (by have := (HRR.out.ro.lt g hg).1; omega) (.inl e), hnbv g (HRR.out.ro.lt g hg).1, Nat.lt_of_lt_of_le (HRR.out.ro.lt g hg).2 hk4.size⟩⟩
  have hva : Reads w4 2 va R.2.length (R.2.flatMap pairCells) := by
    rw [← HRR.out.nal]
    exact (Reads.of_owns HRR.out.ra).keep hk4 (fun g hg _ e => hnbv g (HRR.out.ra.lt g hg).1 e)
  obtain ⟨Ava, cva, hve, -⟩ := hva.val
  subst hve
  have HS5 := Lib.hid hs5
  have hR16 : R.2.length ≤ 16 := by rw [← HRR.out.nal]; exact HRR.out.le
  have HPW := Lib.hid (pairs_yes A4 Ava c4 cva R.2.length R.2 w4 (Reads.of_owns hr4) hva (by omega) rfl)
  clear hs4 hs5 hyr hg4 hr4 hk4 hva hnbv
  go_wp2_with fail
  refine HPW.out.mono ?_
  rintro e w5 ⟨rfl, j, rfl⟩
  have HS6 := Lib.hid (HS5.out.drewN j)
  go_wp2
  go_ret2
  exact ⟨v, _, _, rfl, HS6.out⟩
set_option maxRecDepth 100000 in
set_option maxHeartbeats 2000000 in
theorem step_hear (w0 : World) (K b : Nat) (v xv zv : Value) (l : List Hole) (f lg oa ob on : Int) (ov : Value) (ol : List (Int × Int)) (w : World) (hs : St w0 w b v xv l l f lg) (hr : Rl K l) (hz : RightZ f lg) (hn : l.length ≤ 10000) (hK : K ≤ 10000) (hoi : OpIn w ⟨4, oa, ob, on, ov, ol⟩) (hov : ∀ g, ov.ownBlock = some g → 0 < ol.length → g < w0.heap.size) (ht : inT on = true) :
    Calls Try.prog 14 #[.pointer (some ⟨b, 0, none⟩), xv, .agg #[.int .i64 f, .int .i64 lg, zv], .agg #[.int .i64 4, .int .i64 oa, .int .i64 ob, .int .i64 on, ov]] w fun e w' => StepR w0 w' e b (stepL l f lg ⟨4, oa, ob, on, ov, ol⟩) f lg := by
  obtain ⟨z1, z2, z3, z4⟩ := hz
  have hba : Below w.heap.size w ((w.alloc (.cells #[.int .i64 f, .int .i64 lg, zv] 40)).alloc (.cells #[.int .i64 4, .int .i64 oa, .int .i64 ob, .int .i64 on, ov] 44)) := ((Below.refl _ w).alloc (Nat.le_refl _) _).alloc (by simp) _
  have HS := Lib.hid (hs.below hba)
  have HZ := Lib.hid ((Blk.new w #[.int .i64 f, .int .i64 lg, zv] 40).alloc (.cells #[.int .i64 4, .int .i64 oa, .int .i64 ob, .int .i64 on, ov] 44))
  have hob := Blk.new (w.alloc (.cells #[.int .i64 f, .int .i64 lg, zv] 40)) #[.int .i64 4, .int .i64 oa, .int .i64 ob, .int .i64 on, ov] 44
  rw [show (w.alloc (.cells #[.int .i64 f, .int .i64 lg, zv] 40)).heap.size = w.heap.size + 1 by simp] at hob
  have HO := Lib.hid hob
  have HOI := Lib.hid (hoi.below hba)
  have HOV := Lib.hid hov
  obtain ⟨a0, a1, a2, a3, a4⟩ := blk5 hob
  obtain ⟨b0, b1, b2⟩ := blk3 HZ.out
  obtain ⟨A, c, hxv⟩ : ∃ A c, xv = .slice A l.length c := by obtain ⟨A, c, e, -⟩ := hs.rd.val; exact ⟨A, c, e⟩
  subst hxv
  have hnb : ∀ k, w.heap.size ≤ k → ¬ (k = b ∨ v.ownBlock = some k) := fun k hk h => h.elim (fun e => by have := hs.gp.str.lt; omega) (fun e => by have := (hs.gp.ne e).2; omega)
  have HNB := Lib.hid hnb
  obtain ⟨pA, pc, hpv, -⟩ := hoi.rd.val
  have hpv : ov = .slice pA ol.length pc := hpv
  have hole : ol.length ≤ 1048576 := hoi.le
  have hord : Reads w 2 ov ol.length (ol.flatMap pairCells) := hoi.rd
  have HORD := Lib.hid (hord.below hba)
  subst hpv
  have hsl : stepL l f lg ⟨4, oa, ob, on, .slice pA ol.length pc, ol⟩ = l.map (heard ol on) := by unfold stepL; rfl
  rw [hsl]
  have HRH := Lib.hid (rhear_yes K A c l.length l pA pc ol.length ol on _ HS.out.rd rfl (by omega) hr HORD.out rfl (by omega) ht)
  have HGH := Lib.hid (fun w h hp => hear_any K b v l f lg on pA pc ol.length ol w h hr (by omega) hp rfl (by omega) (fun g hg h0 e => by have := hs.own g e; have := HOV.out g hg h0; omega))
  have HML := Lib.hid (show (l.map (heard ol on)).length = l.length by simp)
  clear hsl hord hole ht
  clear hs hba hob hr hoi hnb hov
  generalize l.map (heard ol on) = R at *
  generalize heardN ol on l = q at *
  go_enter Try.func14, Try.ntmps14
  go_wp2_with fail
  have hsz1 : w.heap.size < ((w.alloc (.cells #[.int .i64 f, .int .i64 lg, zv] 40)).alloc (.cells #[.int .i64 4, .int .i64 oa, .int .i64 ob, .int .i64 on, .slice pA ol.length pc] 44)).heap.size := by simp; omega
  have hsz2 : w.heap.size + 1 < ((w.alloc (.cells #[.int .i64 f, .int .i64 lg, zv] 40)).alloc (.cells #[.int .i64 4, .int .i64 oa, .int .i64 ob, .int .i64 on, .slice pA ol.length pc] 44)).heap.size := by simp
  generalize ((w.alloc (.cells #[.int .i64 f, .int .i64 lg, zv] 40)).alloc (.cells #[.int .i64 4, .int .i64 oa, .int .i64 ob, .int .i64 on, .slice pA ol.length pc] 44)) = w2 at *
  refine HRH.out.mono ?_
  rintro e w3 ⟨A3, c3, rfl, ho3, hb3⟩
  have hs3 := HS.out.below hb3
  have HO3 := Lib.hid (HO.out.below hb3)
  have HZ3 := Lib.hid (HZ.out.below hb3)
  have HP3 := Lib.hid (HORD.out.below hb3)
  have HS3 := Lib.hid hs3
  have HO3R := Lib.hid ho3
  clear hs3 ho3 hb3 a0 a1 a2 a3 a4 b0 b1 b2
  obtain ⟨a0, a1, a2, a3, a4⟩ := blk5 HO3.out
  obtain ⟨b0, b1, b2⟩ := blk3 HZ3.out
  have l1_3 : w.heap.size < w3.heap.size := HZ3.out.lt
  have l2_3 : w.heap.size + 1 < w3.heap.size := HO3.out.lt
  go_wp2_with fail
  refine (HGH.out w3 HS3.out.gp HP3.out).mono ?_
  rintro e w4 ⟨rfl, hg4, hk4⟩
  have hnbv : ∀ g, w2.heap.size ≤ g → v.ownBlock ≠ some g := fun g hg e => HNB.out g (by omega) (.inr e)
  have hs4 := HS3.out.ask hg4 hk4
  have hyr : Reads w3 4 (.slice A3 l.length c3) l.length (R.flatMap holeCells) := Reads.of_owns HO3R.out
  have hs5 : St w0 w4 b v (.slice A3 l.length c3) R R f lg := ⟨hs4.gp, hs4.own, hs4.lo, hs4.bel, by rw [HML.out]; exact hyr.keep hk4 (fun g hg _ e => hnbv g (HO3R.out.lt g hg).1 e), fun g hg => ⟨fun e => HNB.out g (by have := (HO3R.out.lt g hg).1; omega) (.inl e), hnbv g (HO3R.out.lt g hg).1, Nat.lt_of_lt_of_le (HO3R.out.lt g hg).2 hk4.size⟩⟩
  have HS5 := Lib.hid hs5
  have t1 : (q == q) = true := by simp
  clear hs4 hs5 hyr hg4 hk4 hnbv
  go_wp2
  go_ret2
  exact ⟨v, _, _, rfl, HS5.out⟩
set_option maxRecDepth 100000 in
set_option maxHeartbeats 2000000 in
theorem step_hear_no (w0 : World) (K b : Nat) (v xv zv : Value) (l : List Hole) (f lg oa ob on : Int) (ov : Value) (ol : List (Int × Int)) (w : World) (hs : St w0 w b v xv l l f lg) (hr : Rl K l) (hz : RightZ f lg) (hn : l.length ≤ 10000) (hK : K ≤ 10000) (hoi : OpIn w ⟨4, oa, ob, on, ov, ol⟩) (hov : ∀ g, ov.ownBlock = some g → 0 < ol.length → g < w0.heap.size) (ht : inT on = false) :
    Calls Try.prog 14 #[.pointer (some ⟨b, 0, none⟩), xv, .agg #[.int .i64 f, .int .i64 lg, zv], .agg #[.int .i64 4, .int .i64 oa, .int .i64 ob, .int .i64 on, ov]] w fun e w' => StepR w0 w' e b (stepL l f lg ⟨4, oa, ob, on, ov, ol⟩) f lg := by
  obtain ⟨z1, z2, z3, z4⟩ := hz
  have hba : Below w.heap.size w ((w.alloc (.cells #[.int .i64 f, .int .i64 lg, zv] 40)).alloc (.cells #[.int .i64 4, .int .i64 oa, .int .i64 ob, .int .i64 on, ov] 44)) := ((Below.refl _ w).alloc (Nat.le_refl _) _).alloc (by simp) _
  have HS := Lib.hid (hs.below hba)
  have HZ := Lib.hid ((Blk.new w #[.int .i64 f, .int .i64 lg, zv] 40).alloc (.cells #[.int .i64 4, .int .i64 oa, .int .i64 ob, .int .i64 on, ov] 44))
  have hob := Blk.new (w.alloc (.cells #[.int .i64 f, .int .i64 lg, zv] 40)) #[.int .i64 4, .int .i64 oa, .int .i64 ob, .int .i64 on, ov] 44
  rw [show (w.alloc (.cells #[.int .i64 f, .int .i64 lg, zv] 40)).heap.size = w.heap.size + 1 by simp] at hob
  have HO := Lib.hid hob
  have HOI := Lib.hid (hoi.below hba)
  have HOV := Lib.hid hov
  obtain ⟨a0, a1, a2, a3, a4⟩ := blk5 hob
  obtain ⟨b0, b1, b2⟩ := blk3 HZ.out
  obtain ⟨A, c, hxv⟩ : ∃ A c, xv = .slice A l.length c := by obtain ⟨A, c, e, -⟩ := hs.rd.val; exact ⟨A, c, e⟩
  subst hxv
  have hnb : ∀ k, w.heap.size ≤ k → ¬ (k = b ∨ v.ownBlock = some k) := fun k hk h => h.elim (fun e => by have := hs.gp.str.lt; omega) (fun e => by have := (hs.gp.ne e).2; omega)
  have HNB := Lib.hid hnb
  obtain ⟨pA, pc, hpv, -⟩ := hoi.rd.val
  have hpv : ov = .slice pA ol.length pc := hpv
  have hole : ol.length ≤ 1048576 := hoi.le
  have hord : Reads w 2 ov ol.length (ol.flatMap pairCells) := hoi.rd
  have HORD := Lib.hid (hord.below hba)
  subst hpv
  have hid : l.map (heard ol on) = l := by
    refine (List.map_congr_left fun o _ => ?_).trans (List.map_id l)
    unfold heard hears
    rw [ht]; simp
  have hsl : stepL l f lg ⟨4, oa, ob, on, .slice pA ol.length pc, ol⟩ = l := by
    show l.map (heard ol on) = l
    exact hid
  rw [hsl]
  have HRH := Lib.hid (fun w => rhear_no (.slice A l.length c) (.slice pA ol.length pc) on w ht)
  have HGH := Lib.hid (fun w h hp => hear_any K b v l f lg on pA pc ol.length ol w h hr (by omega) hp rfl (by omega) (fun g hg h0 e => by have := hs.own g e; have := HOV.out g hg h0; omega))
  rw [hid] at HGH
  clear hsl hord hole ht hid
  clear hs hba hob hr hoi hnb hov
  generalize heardN ol on l = q at *
  go_enter Try.func14, Try.ntmps14
  go_wp2_with fail
  have hsz1 : w.heap.size < ((w.alloc (.cells #[.int .i64 f, .int .i64 lg, zv] 40)).alloc (.cells #[.int .i64 4, .int .i64 oa, .int .i64 ob, .int .i64 on, .slice pA ol.length pc] 44)).heap.size := by simp; omega
  have hsz2 : w.heap.size + 1 < ((w.alloc (.cells #[.int .i64 f, .int .i64 lg, zv] 40)).alloc (.cells #[.int .i64 4, .int .i64 oa, .int .i64 ob, .int .i64 on, .slice pA ol.length pc] 44)).heap.size := by simp
  generalize ((w.alloc (.cells #[.int .i64 f, .int .i64 lg, zv] 40)).alloc (.cells #[.int .i64 4, .int .i64 oa, .int .i64 ob, .int .i64 on, .slice pA ol.length pc] 44)) = w2 at *
  refine (HRH.out w2).mono ?_
  rintro e w3 ⟨rfl, rfl⟩
  go_wp2_with fail
  refine (HGH.out w2 HS.out.gp HORD.out).mono ?_
  rintro e w4 ⟨rfl, hg4, hk4⟩
  have HS4 := Lib.hid (HS.out.ask hg4 hk4)
  clear hg4 hk4
  go_wp2
  go_ret2
  exact ⟨v, _, _, rfl, HS4.out⟩
set_option maxRecDepth 100000 in
set_option maxHeartbeats 2000000 in
theorem step_none (w0 : World) (K b : Nat) (v xv zv : Value) (l : List Hole) (f lg kd oa ob on : Int) (ov : Value) (ol : List (Int × Int)) (w : World) (hs : St w0 w b v xv l l f lg) (hr : Rl K l) (hz : RightZ f lg) (hn : l.length ≤ 10000) (hK : K ≤ 10000) (hoi : OpIn w ⟨kd, oa, ob, on, ov, ol⟩) (hov : ∀ g, ov.ownBlock = some g → 0 < ol.length → g < w0.heap.size) (h1 : kd ≠ 1) (h2 : kd ≠ 2) (h3 : kd ≠ 3) (h4 : kd ≠ 4) (h5 : kd ≠ 5) :
    Calls Try.prog 14 #[.pointer (some ⟨b, 0, none⟩), xv, .agg #[.int .i64 f, .int .i64 lg, zv], .agg #[.int .i64 kd, .int .i64 oa, .int .i64 ob, .int .i64 on, ov]] w fun e w' => StepR w0 w' e b (stepL l f lg ⟨kd, oa, ob, on, ov, ol⟩) f lg := by
  obtain ⟨z1, z2, z3, z4⟩ := hz
  have hba : Below w.heap.size w ((w.alloc (.cells #[.int .i64 f, .int .i64 lg, zv] 40)).alloc (.cells #[.int .i64 kd, .int .i64 oa, .int .i64 ob, .int .i64 on, ov] 44)) := ((Below.refl _ w).alloc (Nat.le_refl _) _).alloc (by simp) _
  have HS := Lib.hid (hs.below hba)
  have HZ := Lib.hid ((Blk.new w #[.int .i64 f, .int .i64 lg, zv] 40).alloc (.cells #[.int .i64 kd, .int .i64 oa, .int .i64 ob, .int .i64 on, ov] 44))
  have hob := Blk.new (w.alloc (.cells #[.int .i64 f, .int .i64 lg, zv] 40)) #[.int .i64 kd, .int .i64 oa, .int .i64 ob, .int .i64 on, ov] 44
  rw [show (w.alloc (.cells #[.int .i64 f, .int .i64 lg, zv] 40)).heap.size = w.heap.size + 1 by simp] at hob
  have HO := Lib.hid hob
  have HOI := Lib.hid (hoi.below hba)
  have HOV := Lib.hid hov
  obtain ⟨a0, a1, a2, a3, a4⟩ := blk5 hob
  obtain ⟨b0, b1, b2⟩ := blk3 HZ.out
  obtain ⟨A, c, hxv⟩ : ∃ A c, xv = .slice A l.length c := by obtain ⟨A, c, e, -⟩ := hs.rd.val; exact ⟨A, c, e⟩
  subst hxv
  have hnb : ∀ k, w.heap.size ≤ k → ¬ (k = b ∨ v.ownBlock = some k) := fun k hk h => h.elim (fun e => by have := hs.gp.str.lt; omega) (fun e => by have := (hs.gp.ne e).2; omega)
  have HNB := Lib.hid hnb
  have hsl : stepL l f lg ⟨kd, oa, ob, on, ov, ol⟩ = l := by unfold stepL; rw [if_neg h1, if_neg h2, if_neg h3, if_neg h4, if_neg h5]
  rw [hsl]
  have t1 : (kd == 1) = false := by rw [beq_eq_false_iff_ne]; exact h1
  have t2 : (kd == 2) = false := by rw [beq_eq_false_iff_ne]; exact h2
  have t3 : (kd == 3) = false := by rw [beq_eq_false_iff_ne]; exact h3
  have t4 : (kd == 4) = false := by rw [beq_eq_false_iff_ne]; exact h4
  have t5 : (kd == 5) = false := by rw [beq_eq_false_iff_ne]; exact h5
  clear hsl h1 h2 h3 h4 h5
  clear hs hba hob hr hoi hnb hov
  go_enter Try.func14, Try.ntmps14
  go_wp2
  go_ret2
  exact ⟨v, _, _, rfl, HS.out⟩
theorem step_any (w0 : World) (K b : Nat) (v xv zv : Value) (l : List Hole) (f lg : Int) (o : OpD) (w : World) (hs : St w0 w b v xv l l f lg) (hr : Rl K l) (hz : RightZ f lg) (hn : l.length ≤ 10000) (hK : K ≤ 10000) (hoi : OpIn w o) (hov : ∀ g, o.lv.ownBlock = some g → 0 < o.l.length → g < w0.heap.size) :
    Calls Try.prog 14 #[.pointer (some ⟨b, 0, none⟩), xv, .agg #[.int .i64 f, .int .i64 lg, zv], .agg #[.int .i64 o.kind, .int .i64 o.a, .int .i64 o.b, .int .i64 o.now, o.lv]] w fun e w' => StepR w0 w' e b (stepL l f lg o) f lg := by
  obtain ⟨kd, oa, ob, on, ov, ol⟩ := o
  by_cases h1 : kd = 1
  · subst h1
    by_cases hm : MissOk ⟨1, oa, ob, on, ov, ol⟩
    · exact step_miss w0 K b v xv zv l f lg oa ob on ov ol w hs hr hz hn hK hoi hov hm
    · exact step_miss_no w0 K b v xv zv l f lg oa ob on ov ol w hs hr hz hn hK hoi hov hm
  by_cases h2 : kd = 2
  · subst h2; exact step_got w0 K b v xv zv l f lg oa ob on ov ol w hs hr hz hn hK hoi hov
  by_cases h3 : kd = 3
  · subst h3; exact step_ask w0 K b v xv zv l f lg oa ob on ov ol w hs hr hz hn hK hoi hov
  by_cases h4 : kd = 4
  · subst h4
    cases ht : inT on with
    | true => exact step_hear w0 K b v xv zv l f lg oa ob on ov ol w hs hr hz hn hK hoi hov ht
    | false => exact step_hear_no w0 K b v xv zv l f lg oa ob on ov ol w hs hr hz hn hK hoi hov ht
  by_cases h5 : kd = 5
  · subst h5; exact step_drop w0 K b v xv zv l f lg oa ob on ov ol w hs hr hz hn hK hoi hov
  exact step_none w0 K b v xv zv l f lg kd oa ob on ov ol w hs hr hz hn hK hoi hov h1 h2 h3 h4 h5
end Go.Proofs.Ytkgngmmlfoiajaa
