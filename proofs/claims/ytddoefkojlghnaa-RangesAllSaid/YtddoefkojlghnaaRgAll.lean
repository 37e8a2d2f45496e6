/- ranges: All, an iterator. -/
import Derived.RangeFuncNested
import Derived.RangeFuncBound
import Derived.RangeFuncCalls
import Derived.RangeFuncLeaves
import Derived.RangeFuncBox
import Derived.Shelf.Abstract
import Derived.Shelf.RegionOpen
import Derived.WalkKit
import Derived.OwnWalkIn
import Derived.TacticsInMore
import Derived.LoopNIn
import Derived.LoopIn
import Derived.Test.YtddoefkojlghnaaRanges4
namespace Go.Proofs.Ytddoefkojlghnaa
open Go.RowKit Go.Shelf
attribute [local go_sem] Oper.semAt_some
set_option linter.unusedVariables false
set_option linter.unusedSimpArgs false

/-- cells outside S lie as they lay -/
def KeepC (S : Nat → Prop) (W W' : World) : Prop := W.heap.size ≤ W'.heap.size ∧ ∀ k cs T, ¬ S k → W.heap[k]? = some (.cells cs T) → W'.heap[k]? = some (.cells cs T)
theorem KeepC.trans {S : Nat → Prop} {A B C : World} (h : KeepC S A B) (k : KeepC S B C) : KeepC S A C := ⟨Nat.le_trans h.1 k.1, fun i cs T hi h1 => k.2 i cs T hi (h.2 i cs T hi h1)⟩
theorem KeepC.refl (S : Nat → Prop) (W : World) : KeepC S W W := ⟨Nat.le_refl _, fun _ _ _ _ h => h⟩
theorem KeepC.blk {S : Nat → Prop} {W W' : World} (h : KeepC S W W') {b : Nat} {cs : Array Value} {T : TypeId} (hb : Blk W b cs T) (hs : ¬ S b) : Blk W' b cs T := h.2 b cs T hs hb
theorem KeepC.row {S : Nat → Prop} {W W' : World} (h : KeepC S W W') {base size n : Nat} {e : TypeId} {v : Value} {xs : List Value} (hr : W.ownsRow base e size v n xs) (hs : ∀ g, v.ownBlock = some g → ¬ S g) : W'.ownsRow base e size v n xs := by
  refine ⟨hr.1, hr.2.imp id ?_⟩
  rintro ⟨g, cap, cur, hv, hg, hh, r⟩
  exact ⟨g, cap, cur, hv, hg, h.2 g cur e (hs g (by rw [hv]; rfl)) hh, r⟩
theorem KeepC.setAt {S : Nat → Prop} {W W' : World} (h : KeepC S W W') {b : Nat} {v : Value} {l : List (Int × Int)} {N : Int} (hr : SetAt W b v l N) (hb : ¬ S b) (hs : ∀ g, v.ownBlock = some g → ¬ S g) : SetAt W' b v l N := ⟨h.blk hr.str hb, h.row hr.row hs⟩
theorem keepC_t {S : Nat → Prop} {A B C : World} (h : KeepC S A B) (k : KeepC S B C) : KeepC S A C := h.trans k
theorem keepC_b {S : Nat → Prop} {w : World} (W : World) (l : Nat) (o o' : Obj) (_ : w.heap.size ≤ l) (h : W.heap[l]? = some o) (hc : o.isCells = false) (_ : o.isWalk = false) : KeepC S W (W.putObj l o') := by
  refine ⟨by simp, fun k cs T _ hk => ?_⟩
  by_cases e : k = l
  · subst e
    rw [hk] at h
    cases h
    cases hc
  · exact (World.putObj_heap_other e).trans hk
theorem KeepC.alloc {S : Nat → Prop} {A W : World} (h : KeepC S A W) (o : Obj) : KeepC S A (W.alloc o) := h.trans ⟨by simp, fun k cs T _ hk => (Below.heap_alloc _ _ _ (Array.getElem?_eq_some_iff.1 hk).1).trans hk⟩
/-- all numbers of a set -/
def numsOf (x : Int × Int) : List Int := (List.range (x.2 - x.1).toNat).map fun i : Nat => x.1 + (i : Int)
def nums (L : List (Int × Int)) : List Int := L.flatMap numsOf
theorem nums_take {L : List (Int × Int)} {k : Nat} {x : Int × Int} (hx : L[k]? = some x) : nums (L.take (k + 1)) = nums (L.take k) ++ numsOf x := by
  unfold nums
  rw [List.take_add_one, hx, List.flatMap_append]
  simp
def numsTo (L : List (Int × Int)) (k : Nat) (x : Int × Int) (j : Nat) : List Int := nums (L.take k) ++ (List.range j).map fun i : Nat => x.1 + (i : Int)
theorem numsTo_zero (L : List (Int × Int)) (k : Nat) (x : Int × Int) : numsTo L k x 0 = nums (L.take k) := by simp [numsTo]
theorem numsTo_succ (L : List (Int × Int)) (k : Nat) (x : Int × Int) (j : Nat) : numsTo L k x (j + 1) = numsTo L k x j ++ [x.1 + (j : Int)] := by simp [numsTo, List.range_succ]
theorem numsTo_all {L : List (Int × Int)} {k : Nat} {x : Int × Int} (hx : L[k]? = some x) : numsTo L k x (x.2 - x.1).toNat = nums (L.take (k + 1)) := by rw [nums_take hx]; rfl
theorem numsTo_prefix {L : List (Int × Int)} {k j : Nat} {x : Int × Int} (hx : L[k]? = some x) (hj : j ≤ (x.2 - x.1).toNat) : numsTo L k x j <+: nums L := by
  have h1 : nums L = nums (L.take (k + 1)) ++ nums (L.drop (k + 1)) := by unfold nums; rw [← List.flatMap_append, List.take_append_drop]
  have h2 : numsTo L k x j <+: nums (L.take (k + 1)) := by
    rw [nums_take hx]
    refine (List.prefix_append_right_inj _).2 ?_
    unfold numsOf
    refine ⟨(List.range' j ((x.2 - x.1).toNat - j)).map (fun i : Nat => x.1 + (i : Int)), ?_⟩
    rw [← List.map_append, List.range_eq_range', List.range_eq_range']
    congr 1
    have := List.range'_append (s := 0) (m := j) (n := (x.2 - x.1).toNat - j) (step := 1)
    simp only [Nat.one_mul, Nat.zero_add] at this
    rw [this]
    congr 1; omega
  rw [h1]
  exact h2.trans (List.prefix_append _ _)
theorem numsTo_lt {L : List (Int × Int)} {k j : Nat} {x : Int × Int} (hx : L[k]? = some x) (hj : j < (x.2 - x.1).toNat) : (numsTo L k x j).length < (nums L).length := by
  have h := (numsTo_prefix hx (show j + 1 ≤ _ from hj)).length_le
  rw [numsTo_succ, List.length_append] at h
  simp at h
  omega

set_option maxRecDepth 100000 in
set_option maxHeartbeats 4000000 in
theorem all1_in (F : Fence) (n : Nat) (hF : F.fn 28) (hro : F.round = none) (hn : 1 ≤ n) (l Bs b n0 : Nat) (v : Value) (L : List (Int × Int)) (N : Int) (S : Nat → Prop) (hg : Good (-1) L) (J Jx : List Int → World → Prop) (W : World) (hn0 : ∀ k, S k → k < n0) (hnW : n0 ≤ W.heap.size) (hJ : AbidesFrom W.heap.size J)
    (hb : ¬ S b) (hv : ∀ g, v.ownBlock = some g → ¬ S g)
    (hY : ∀ pre x W, J pre W → pre.length < (nums L).length → YieldAt F (n - 1) Try.prog l #[.int .i64 x] W fun e W' =>
      (e = .returned (.bool true) ∧ J (pre ++ [x]) W' ∧ KeepC S W W') ∨ (e = .returned (.bool false) ∧ Jx (pre ++ [x]) W'))
    (hBs : W.cell? ⟨Bs, 0, none⟩ = some (.pointer (some ⟨b, 0, none⟩))) (hS : SetAt W b v L N) (h0 : J [] W) :
    CallsIn F n Try.prog 28 #[.func (.yield l) #[] #[], .pointer (some ⟨Bs, 0, none⟩)] W fun e W' => (∃ v, e = .returned v) ∧
      ((∃ ys, ys = nums L ∧ J ys W') ∨ (∃ pre, pre <+: nums L ∧ Jx pre W')) := by
  have HS := Lib.hid hS
  have HG := Lib.hid hg
  have HY := Lib.hid hY
  have HJ := Lib.hid hJ
  have HV := Lib.hid hv
  have HN0 := Lib.hid hn0
  have hln := hg.len'
  obtain ⟨s, k, rfl⟩ := hS.slice
  obtain ⟨z0, z1⟩ := hS.c
  obtain ⟨m, hm⟩ : ∃ m, m = L.length := ⟨_, rfl⟩
  have HM := Lib.hid hm
  rw [← hm] at hln z0 HS HV
  clear hS hg hY hJ hv hm hn0
  refine callsIn_of_wp Try.func28 rfl hF ?_ hro
  simp only [Try.ntmps28, List.size_toArray, List.length_cons, List.length_nil, Nat.reduceAdd, Nat.reduceSub, Array.replicate_succ, Array.replicate_zero, List.push_toArray, List.append_toArray, List.nil_append, List.cons_append]
  gi_wp2
  gi_loopw [11] (fun i wr => ∃ k' : Nat, k' ≤ m ∧ i = .int .i64 k' ∧ J (nums (L.take k')) wr ∧ Hid (KeepC S W wr)) (fun i _ => m - (intOf i).toNat)
  case atStart => exact ⟨0, Nat.zero_le _, rfl, h0, KeepC.refl _ _⟩
  case round =>
    obtain ⟨k', hk', rfl, hJs, HK⟩ := hrel
    by_cases hlt : k' < m
    · obtain ⟨x, hx⟩ : ∃ x, L[k']? = some x := ⟨_, List.getElem?_eq_getElem (by have := HM.out; omega)⟩
      have HSR := Lib.hid (HK.out.setAt HS.out hb HV.out)
      obtain ⟨g, o, cc, he, y0, y1⟩ := HSR.out.rd.pair hx
      obtain ⟨b1, b2, b3⟩ := HG.out.mem x (List.mem_of_getElem? hx)
      have HX := Lib.hid hx
      obtain ⟨wz, hwz⟩ : ∃ wz, wz = wr.alloc (.cells #[.int .i64 x.1, .int .i64 x.2] 24) := ⟨_, rfl⟩
      have HWZ := Lib.hid hwz
      have HBZ : Hid (Blk wz wr.heap.size #[.int .i64 x.1, .int .i64 x.2] 24) := by show Blk _ _ _ _; rw [hwz]; exact Blk.new wr _ _
      have HKZ : Hid (KeepC S W wz) := by show KeepC _ _ _; rw [hwz]; exact HK.out.alloc _
      have hJz : J (numsTo L k' x 0) wz := by rw [hwz, numsTo_zero]; exact HJ.out _ wr _ none hJs (World.grownBy_alloc wr _ none) (fun r e => by cases e)
      have hnS : ¬ S wr.heap.size := fun e => by have := HN0.out _ e; have := HK.out.1; omega
      have HNS := Lib.hid hnS
      obtain ⟨nb, hnb⟩ : ∃ nb, nb = wr.heap.size := ⟨_, rfl⟩
      have hnbz : nb < wz.heap.size := by rw [hnb]; exact HBZ.out.lt
      have c0 := HBZ.out.cell 0 rfl
      have c1 := HBZ.out.cell 1 rfl
      obtain ⟨cnt, hcnt⟩ : ∃ cnt : Nat, (cnt : Int) = x.2 - x.1 := ⟨(x.2 - x.1).toNat, by omega⟩
      have hct : (x.2 - x.1).toNat = cnt := by omega
      have hx2 : x.2 = x.1 + (cnt : Int) := by omega
      have HCT := Lib.hid hct
      have HX2 := Lib.hid hx2
      have i1 : (0 : Int) ≤ (k' : Int) := by omega
      have i2 : (k' : Int) < (m : Int) := by omega
      cases he
      rw [← hnb] at HBZ HNS c0 c1
      have HNB := Lib.hid hnb
      clear hx hwz hnS hJs hnb hcnt hct hx2
      gi_wp2
      rw [← HWZ.out, ← HNB.out]
      gi_loopw [5] (fun nn w2 => ∃ j : Nat, j ≤ cnt ∧ nn = .int .i64 (x.1 + (j : Int)) ∧ J (numsTo L k' x j) w2 ∧ Hid (KeepC S W w2) ∧ Hid (Blk w2 nb #[.int .i64 x.1, .int .i64 x.2] 24)) (fun nn _ => (x.2 - intOf nn).toNat)
      case atStart => exact ⟨0, Nat.zero_le _, by simp, hJz, HKZ, HBZ⟩
      case round =>
        obtain ⟨j, hj, rfl, hJj, HK2, HB2⟩ := hrel
        obtain ⟨w2, rfl⟩ : ∃ w2 : World, w2 = wr := ⟨_, rfl⟩
        have d0 : w2.cell? ⟨nb, 0, none⟩ = some (.int .i64 x.1) := HB2.out.cell 0 rfl
        have d1 : w2.cell? ⟨nb, 1, none⟩ = some (.int .i64 x.2) := HB2.out.cell 1 rfl
        by_cases hjc : j < cnt
        · have hlt2 : x.1 + (j : Int) < x.2 := by have := HX2.out; omega
          obtain ⟨fn, tmps, assign, body, hy, hR⟩ := HY.out _ (x.1 + (j : Int)) w2 hJj (numsTo_lt HX.out (by rw [HCT.out]; exact hjc))
          have HPRE : Hid (numsTo L k' x j ++ [x.1 + (j : Int)] <+: nums L) := by
            show _ <+: _
            rw [← numsTo_succ]; exact numsTo_prefix HX.out (by rw [HCT.out]; exact hjc)
          gi_wp2
          refine hR.mono ?_
          rintro e W3 (⟨rfl, hJ3, hk3⟩ | ⟨rfl, hJx3⟩)
          · have HK3 : Hid (KeepC S W W3) := HK2.out.trans hk3
            have HB3 : Hid (Blk W3 nb #[.int .i64 x.1, .int .i64 x.2] 24) := hk3.blk HB2.out HNS.out
            rw [← numsTo_succ] at hJ3
            clear hk3 hy hR
            gi_wp2
            go_roundw
            case rel => exact ⟨j + 1, by omega, by go_num, hJ3, HK3, HB3⟩
            case measure => simp [intOf]; omega
          · gi_wp2
            refine bodyPost_ret (results_none rfl _ _ _) rfl ?_
            exact ⟨⟨_, rfl⟩, .inr ⟨_, HPRE.out, hJx3⟩⟩
        · have hge : ¬ (x.1 + (j : Int) < x.2) := by have := HX2.out; omega
          have hjeq : j = cnt := by omega
          have hJn : J (nums (L.take (k' + 1))) w2 := by rw [← numsTo_all HX.out, HCT.out, ← hjeq]; exact hJj
          clear hjeq hJj
          gi_wp2
          go_roundw
          case rel => exact ⟨k' + 1, by omega, by go_num, hJn, HK2⟩
          case measure => simp [intOf]; omega
    · obtain rfl : k' = m := by omega
      gi_wp2
      go_end0
      exact ⟨⟨_, rfl⟩, .inl ⟨_, by rw [List.take_of_length_le (by have := HM.out; omega)], hJs⟩⟩
end Go.Proofs.Ytddoefkojlghnaa
