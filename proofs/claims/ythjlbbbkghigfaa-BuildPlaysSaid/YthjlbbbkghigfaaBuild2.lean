/- build: Missing, Complete. -/
import Derived.Test.YthjlbbbkghigfaaBuild
import Derived.Test.YthjlbbbkghigfaaStripe2
namespace Go.Proofs.Ythjlbbbkghigfaa
open Go.RowKit
set_option linter.unusedVariables false
set_option linter.unusedSimpArgs false

/-- what Missing tells -/
def MissR (x : BuS) (m : Int) (w w' : World) (e : Ending) : Prop := ∃ M A c, e = .returned (.slice A M.length c) ∧ Good (-1) M ∧ (∀ i, cov M i = (uptoB x.n m (nb x.s x.k) i && !cov x.L i)) ∧ w'.ownsRow w.heap.size 46 2 (.slice A M.length c) M.length (M.flatMap pairCells) ∧ Below w.heap.size w w'
theorem cov_take_succ {L : List (Int × Int)} {j : Nat} {x : Int × Int} (hx : L[j]? = some x) (i : Int) : cov (L.take (j + 1)) i = (cov (L.take j) i || cov [x] i) := by
  rw [List.take_add_one, hx, cov_append]; rfl
set_option maxRecDepth 100000 in
set_option maxHeartbeats 4000000 in
theorem missing_any (x : BuS) (m : Int) (w : World) (h : BuAt w x) :
    Calls Try.prog 18 #[.pointer (some ⟨x.b, 0, none⟩), .int .i64 m] w fun e w' => MissR x m w w' e := by
  have HUP := Lib.hid (upto_any x.pb x.s x.k x.n m w h.plan h.ok)
  have HST := Lib.hid @str_any
  have HCU := Lib.hid @cut_any
  have H := Lib.hid h
  obtain ⟨c0, c1, c2, c3, c4⟩ := h.c
  have hb := h.str.lt
  have hln := h.good.len'
  clear h
  go_enter Try.func18, Try.ntmps18
  go_wp2_with fail
  refine HUP.out.mono ?_
  rintro e w1 ⟨v1, l1, rfl, hs1, hg1, hc1, hv1, hb1⟩
  obtain ⟨ob, hob⟩ : ∃ ob, ob = w.heap.size := ⟨_, rfl⟩
  have HOB := Lib.hid hob
  rw [← hob] at hs1 ⊢
  have HS1 := Lib.hid hs1
  have HG1 := Lib.hid hg1
  have HC1 := Lib.hid hc1
  have HV1 := Lib.hid hv1
  have HB1 := Lib.hid hb1
  have H1 := Lib.hid (H.out.below hb1)
  have HSL := Lib.hid (HST.out x.hb x.hv x.L _ w1 H1.out.set (by omega))
  obtain ⟨d0, d1, d2, d3, d4⟩ := H1.out.c
  obtain ⟨nl, hnl⟩ : ∃ nl, nl = x.L.length := ⟨_, rfl⟩
  have HNL := Lib.hid hnl
  rw [← hnl] at HSL hln
  clear hs1 hg1 hc1 hv1 hb1 hob hnl
  go_wp2_with fail
  refine HSL.out.mono ?_
  rintro e w2 ⟨A2, k2, rfl, hO2, hB2⟩
  have HO2 := Lib.hid hO2
  have HB2 := Lib.hid hB2
  have HS2 := Lib.hid (HS1.out.below hB2)
  have HBW2 : Hid (Below w.heap.size w w2) := bmore HB1.out hB2 HB1.out.size
  have HNE2 : Hid (∀ g, v1.ownBlock = some g → (Value.slice A2 nl k2).ownBlock ≠ some g) := fun g hg e => by have := (HS1.out.ne hg).2; have := (own_lt hO2 e).1; omega
  have HSB : Hid (∀ g, (Value.slice A2 nl k2).ownBlock = some g → g ≠ ob) := fun g e => by have := HS1.out.str.lt; have := (own_lt hO2 e).1; omega
  clear hO2 hB2
  go_wp2_with fail
  go_loopw [20] (fun i wr => ∃ (j : Nat) (v : Value) (l : List (Int × Int)), j ≤ nl ∧ i = .int .i64 j ∧ Hid (SetAt wr ob v l (tot l)) ∧ Hid (Good (-1) l) ∧ Hid (∀ i, cov l i = (uptoB x.n m (nb x.s x.k) i && !cov (x.L.take j) i)) ∧ Hid (∀ g, v.ownBlock = some g → w.heap.size ≤ g) ∧ Hid (∀ g, v.ownBlock = some g → (Value.slice A2 nl k2).ownBlock ≠ some g) ∧ Hid (Reads wr 2 (.slice A2 nl k2) nl (x.L.flatMap pairCells)) ∧ Hid (Below w.heap.size w wr)) (fun i _ => nl - (intOf i).toNat)
  case atStart => exact ⟨0, v1, l1, Nat.zero_le _, rfl, HS2, HG1, fun i => by rw [HC1.out]; simp [cov], HV1, HNE2, Reads.of_owns HO2.out, HBW2⟩
  case round =>
    obtain ⟨j, v, l, hj, rfl, HS, HG, HC, HV, HNE, HR, HB⟩ := hrel
    by_cases hjn : j < nl
    · obtain ⟨y, hy⟩ : ∃ y, x.L[j]? = some y := ⟨_, List.getElem?_eq_getElem (by have := HNL.out; omega)⟩
      obtain ⟨g, o, cc, he, y0, y1⟩ := HR.out.pair hy
      obtain ⟨b1, b2, b3⟩ := H.out.good.mem y (List.mem_of_getElem? hy)
      have HY := Lib.hid hy
      obtain ⟨wz, hwz⟩ : ∃ wz, wz = wr.alloc (.cells #[.int .i64 y.1, .int .i64 y.2] 46) := ⟨_, rfl⟩
      have HBZ : Hid (Below wr.heap.size wr wz) := by show Below _ _ _; rw [hwz]; exact (Below.refl _ wr).alloc (Nat.le_refl _) _
      have HWZ := Lib.hid hwz
      have HCZ := Lib.hid (HCU.out ob v l y.1 y.2 wz (HS.out.below HBZ.out) HG.out)
      have HRZ : Hid (Reads wz 2 (.slice A2 nl k2) nl (x.L.flatMap pairCells)) := HR.out.keep (Keep.none HBZ.out) (fun _ _ _ => id)
      have HBWZ : Hid (Below w.heap.size w wz) := bmore HB.out HBZ.out HB.out.size
      have hrt : rightB y.1 y.2 = true := rightB_iff.2 ⟨by omega, by omega, by omega⟩
      have HRT := Lib.hid hrt
      have i1 : (0 : Int) ≤ (j : Int) := by omega
      have i2 : (j : Int) < (nl : Int) := by omega
      cases he
      clear hy hwz hrt
      go_wp2_with fail
      rw [← HWZ.out]
      refine HCZ.out.mono ?_
      rintro e w5 ⟨v5, l5, ⟨g5, c5⟩, rfl, s5, o5, k5⟩
      have HS5 := Lib.hid s5
      have HG5 := Lib.hid g5
      have HC5 : Hid (∀ i, cov l5 i = (uptoB x.n m (nb x.s x.k) i && !cov (x.L.take (j + 1)) i)) := fun i => by
        rw [c5, HC.out, HRT.out, cov_take_succ HY.out, cov_one]
        cases uptoB x.n m (nb x.s x.k) i <;> cases cov (x.L.take j) i <;> simp
      have HV5 : Hid (∀ g, v5.ownBlock = some g → w.heap.size ≤ g) := fun g hg => (o5 g hg).elim (HV.out g) (fun h => Nat.le_trans HBWZ.out.size h)
      have HNE5 : Hid (∀ g', v5.ownBlock = some g' → (Value.slice (some ⟨g, o, none⟩) nl k2).ownBlock ≠ some g') := fun g' hg e => (o5 g' hg).elim (fun h => HNE.out g' h e) (fun h => by have := HRZ.out.lt g' e (by omega); omega)
      have HR5 : Hid (Reads w5 2 (.slice (some ⟨g, o, none⟩) nl k2) nl (x.L.flatMap pairCells)) := HRZ.out.keep k5 (fun g' hg _ e => e.elim (fun e => HSB.out g' hg e) (fun e => HNE.out g' e hg))
      have HB5 : Hid (Below w.heap.size w w5) := bkeep HBWZ.out k5 (Nat.le_refl _) (fun q hq => hq.elim (fun e => by rw [e]; exact Nat.le_of_eq HOB.out.symm) (HV.out q))
      clear g5 c5 s5 o5 k5
      go_wp2
      go_roundw
      case rel => exact ⟨j + 1, v5, l5, by omega, by go_num, HS5, HG5, HC5, HV5, HNE5, HR5, HB5⟩
      case measure => simp [intOf]; omega
    · obtain rfl : j = nl := by omega
      have t1 : ¬ ((j : Int) < (j : Int)) := by omega
      have HSF := Lib.hid (HST.out ob v l _ wr HS.out (by have := HG.out.len'; omega))
      have HCF : Hid (∀ i, cov l i = (uptoB x.n m (nb x.s x.k) i && !cov x.L i)) := fun i => by
        rw [HC.out, List.take_of_length_le (by have := HNL.out; omega)]
      go_wp2_with fail
      refine HSF.out.mono ?_
      rintro e w6 ⟨A6, k6, rfl, hO6, hB6⟩
      have HO6 := Lib.hid (ownsRow_base hO6 HB.out.size)
      have HB6 : Hid (Below w.heap.size w w6) := bmore HB.out hB6 HB.out.size
      clear hO6 hB6
      go_wp2
      go_ret
      exact ⟨l, A6, k6, rfl, HG.out, HCF.out, HO6.out, HB6.out⟩
end Go.Proofs.Ythjlbbbkghigfaa
