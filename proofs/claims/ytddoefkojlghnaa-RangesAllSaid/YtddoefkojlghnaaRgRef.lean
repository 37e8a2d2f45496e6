/- ranges: the law's reference: Set over a list of truths. -/
import Derived.Test.YtddoefkojlghnaaRgPlain3
import Derived.Test.YtddoefkojlghnaaApp
import Derived.Lib.SliceRun
namespace Go.Proofs.Ytddoefkojlghnaa
open Go.RowKit
set_option linter.unusedVariables false
set_option linter.unusedSimpArgs false

theorem info_int : (Try.prog.info? 3).map (fun i => (i.zero, i.size, i.bytes)) = some (some (.int .i64 0), 1, 8) := by kernel_rfl
def b01 (b : Bool) : Int := if b then 1 else 0
/-- a list of truths -/
def bitV (N : Nat) (f : Int → Bool) : List Value := (List.range N).map fun i : Nat => .int .i64 (b01 (f (i : Int)))
theorem bitV_succ (q : Nat) (f : Int → Bool) : bitV (q + 1) f = bitV q f ++ [.int .i64 (b01 (f (q : Int)))] := by unfold bitV; rw [List.range_succ, List.map_append]; rfl
theorem bitV_get {N : Nat} {f : Int → Bool} {j : Nat} (h : j < N) : (bitV N f)[j]? = some (.int .i64 (b01 (f (j : Int)))) := by
  unfold bitV
  rw [List.getElem?_map, List.getElem?_range h]; rfl
def inB (a c n : Int) : Bool := decide (a ≤ n) && decide (n < c)
/-- the truths behind Set -/
def setF (f : Int → Bool) (a c : Int) (vb : Bool) : Int → Bool := fun n => if inB a c n then vb else f n
/-- how many of the first q it changes -/
def chg (f : Int → Bool) (a c : Int) (vb : Bool) (q : Nat) : Nat := cnt q (fun n => inB a c n && (f n != vb))
theorem b01_eq {x y : Bool} : (b01 x == b01 y) = (x == y) := by cases x <;> cases y <;> rfl
theorem chg_le (f : Int → Bool) (a c : Int) (vb : Bool) : ∀ q, chg f a c vb q ≤ q
  | 0 => Nat.le_refl _
  | q + 1 => by
    have h := chg_le f a c vb q
    unfold chg at h ⊢
    rw [cnt_succ]
    split <;> omega
set_option maxRecDepth 100000 in
set_option maxHeartbeats 1000000 in
theorem refset_any (v : Value) (f : Int → Bool) (a c : Int) (vb : Bool) (w : World) (h : Reads w 1 v 16384 (bitV 16384 f)) :
    Calls Try.prog 26 #[v, .int .i64 a, .int .i64 c, .int .i64 (b01 vb)] w fun e w' => ∃ A k, e = .returned (.tuple #[.slice A 16384 k, .int .i64 (chg f a c vb 16384 : Nat)]) ∧ w'.ownsRow w.heap.size 3 1 (.slice A 16384 k) 16384 (bitV 16384 (setF f a c vb)) ∧ Below w.heap.size w w' := by
  have H := Lib.hid h
  obtain ⟨A0, k0, rfl, -⟩ := h.val
  obtain ⟨i0, hi, hz0, hz1, hz2⟩ := info_parts info_int
  clear h
  obtain ⟨n, hn⟩ : ∃ n : Nat, n = 16384 := ⟨_, rfl⟩
  have HN := Lib.hid hn
  obtain ⟨u, hu⟩ : ∃ u, u = b01 vb := ⟨_, rfl⟩
  have HU := Lib.hid hu
  rw [← hu]
  clear hn hu
  go_enter Try.func26, Try.ntmps26
  go_wp2_with fail
  go_loopw [10, 11, 12] (fun o x i wr => ∃ q : Nat, q ≤ 16384 ∧ i = .int .i64 q ∧ x = .int .i64 (chg f a c vb q : Nat) ∧ Hid (wr.ownsRow w.heap.size 3 1 o q (bitV q (setF f a c vb))) ∧ Below w.heap.size w wr) (fun _ _ i _ => 16384 - (intOf i).toNat)
  case atStart => exact ⟨0, by omega, rfl, rfl, World.ownsRow_nil _ _ _ _, Below.refl _ _⟩
  case round =>
    obtain ⟨q, hq, rfl, rfl, hown, hb⟩ := hrel
    have hs := hb.size
    by_cases hqn : q < 16384
    · obtain ⟨g, o', c', he, y0⟩ := (H.out.below hb).at q _ (bitV_get hqn)
      cases he
      have hle := chg_le f a c vb q
      have HCH : Hid (chg f a c vb (q + 1) = chg f a c vb q + (if (inB a c q && (f q != vb)) = true then 1 else 0)) := cnt_succ _ _
      have HSF : Hid (setF f a c vb q = if inB a c q then vb else f q) := rfl
      have HB1 : Hid ((b01 (f q) == u) = (f q == vb)) := by show _ = _; rw [HU.out, b01_eq]
      generalize chg f a c vb q = m at *
      obtain ⟨fq, hfq⟩ : ∃ fq, fq = f (q : Int) := ⟨_, rfl⟩
      have HFQ := Lib.hid hfq
      rw [← hfq] at y0 HCH HSF HB1
      clear hfq
      obtain ⟨z, hz⟩ : ∃ z, z = b01 fq := ⟨_, rfl⟩
      have HZ := Lib.hid hz
      rw [← hz] at y0 HB1
      clear hz
      by_cases h1 : a ≤ (q : Int)
      · by_cases h2 : (q : Int) < c
        · have hin : inB a c q = true := by simp [inB, h1, h2]
          rw [hin] at HCH HSF
          have HV : Hid (Value.int .i64 u = Value.int .i64 (b01 (setF f a c vb q))) := by show _ = _; rw [HSF.out, if_pos rfl, HU.out]
          cases he : fq == vb with
          | true =>
            have t1 : (z == u) = true := by rw [HB1.out, he]
            have hne : (fq != vb) = false := by rw [bne, he]; rfl
            have HC2 : Hid (chg f a c vb (q + 1) = m) := by show _ = _; rw [HCH.out, hne]; rfl
            clear he hin hne
            go_wp2_with (at_builtin; refine wpList_app1 rfl _ _ 33 rfl w.heap.size 3 i0 (.int .i64 0) 1 8 Try.underlying33 hi hz0 hz1 hz2 rfl _ q _ rfl (Hid.out hown) #[.int .i64 u] 1 rfl rfl (by intro u hu; simp at hu; subst hu; rfl) (by omega) (by omega) hs ?_; rintro A2 c2 w2 hown2 hk2 - -)
            have hb2 : Below w.heap.size w w2 := hb.trans (hk2.below (fun g hg => ((Hid.out hown).lt g hg).1) hs)
            have HO : Hid (w2.ownsRow w.heap.size 3 1 (.slice A2 (q + 1) c2) (q + 1) (bitV (q + 1) (setF f a c vb))) := by
              show World.ownsRow ..
              rw [bitV_succ, ← HV.out]; exact hown2
            clear hown2
            go_wp2
            go_roundw
            case rel => exact ⟨q + 1, by omega, by go_num, by first | (rw [HC2.out]; done) | (rw [HC2.out]; go_num), HO, hb2⟩
            case measure => simp [intOf]; omega
          | false =>
            have t1 : (z == u) = false := by rw [HB1.out, he]
            have hne : (fq != vb) = true := by rw [bne, he]; rfl
            have HC2 : Hid (chg f a c vb (q + 1) = m + 1) := by show _ = _; rw [HCH.out, hne]; rfl
            clear he hin hne
            go_wp2_with (at_builtin; refine wpList_app1 rfl _ _ 33 rfl w.heap.size 3 i0 (.int .i64 0) 1 8 Try.underlying33 hi hz0 hz1 hz2 rfl _ q _ rfl (Hid.out hown) #[.int .i64 u] 1 rfl rfl (by intro u hu; simp at hu; subst hu; rfl) (by omega) (by omega) hs ?_; rintro A2 c2 w2 hown2 hk2 - -)
            have hb2 : Below w.heap.size w w2 := hb.trans (hk2.below (fun g hg => ((Hid.out hown).lt g hg).1) hs)
            have HO : Hid (w2.ownsRow w.heap.size 3 1 (.slice A2 (q + 1) c2) (q + 1) (bitV (q + 1) (setF f a c vb))) := by
              show World.ownsRow ..
              rw [bitV_succ, ← HV.out]; exact hown2
            clear hown2
            go_wp2
            go_roundw
            case rel => exact ⟨q + 1, by omega, by go_num, by first | (rw [HC2.out]; done) | (rw [HC2.out]; go_num), HO, hb2⟩
            case measure => simp [intOf]; omega
        · have hin : inB a c q = false := by simp [inB, h2]
          rw [hin] at HCH HSF
          have HC2 : Hid (chg f a c vb (q + 1) = m) := by show _ = _; rw [HCH.out]; rfl
          have HV : Hid (Value.int .i64 z = Value.int .i64 (b01 (setF f a c vb q))) := by show _ = _; rw [HSF.out, if_neg Bool.false_ne_true, HZ.out]
          clear hin
          go_wp2_with (at_builtin; refine wpList_app1 rfl _ _ 33 rfl w.heap.size 3 i0 (.int .i64 0) 1 8 Try.underlying33 hi hz0 hz1 hz2 rfl _ q _ rfl (Hid.out hown) #[.int .i64 z] 1 rfl rfl (by intro u hu; simp at hu; subst hu; rfl) (by omega) (by omega) hs ?_; rintro A2 c2 w2 hown2 hk2 - -)
          have hb2 : Below w.heap.size w w2 := hb.trans (hk2.below (fun g hg => ((Hid.out hown).lt g hg).1) hs)
          have HO : Hid (w2.ownsRow w.heap.size 3 1 (.slice A2 (q + 1) c2) (q + 1) (bitV (q + 1) (setF f a c vb))) := by
            show World.ownsRow ..
            rw [bitV_succ, ← HV.out]; exact hown2
          clear hown2
          go_wp2
          go_roundw
          case rel => exact ⟨q + 1, by omega, by go_num, by first | (rw [HC2.out]; done) | (rw [HC2.out]; go_num), HO, hb2⟩
          case measure => simp [intOf]; omega
      · have hin : inB a c q = false := by simp [inB, h1]
        rw [hin] at HCH HSF
        have HC2 : Hid (chg f a c vb (q + 1) = m) := by show _ = _; rw [HCH.out]; rfl
        have HV : Hid (Value.int .i64 z = Value.int .i64 (b01 (setF f a c vb q))) := by show _ = _; rw [HSF.out, if_neg Bool.false_ne_true, HZ.out]
        clear hin
        go_wp2_with (at_builtin; refine wpList_app1 rfl _ _ 33 rfl w.heap.size 3 i0 (.int .i64 0) 1 8 Try.underlying33 hi hz0 hz1 hz2 rfl _ q _ rfl (Hid.out hown) #[.int .i64 z] 1 rfl rfl (by intro u hu; simp at hu; subst hu; rfl) (by omega) (by omega) hs ?_; rintro A2 c2 w2 hown2 hk2 - -)
        have hb2 : Below w.heap.size w w2 := hb.trans (hk2.below (fun g hg => ((Hid.out hown).lt g hg).1) hs)
        have HO : Hid (w2.ownsRow w.heap.size 3 1 (.slice A2 (q + 1) c2) (q + 1) (bitV (q + 1) (setF f a c vb))) := by
          show World.ownsRow ..
          rw [bitV_succ, ← HV.out]; exact hown2
        clear hown2
        go_wp2
        go_roundw
        case rel => exact ⟨q + 1, by omega, by go_num, by first | (rw [HC2.out]; done) | (rw [HC2.out]; go_num), HO, hb2⟩
        case measure => simp [intOf]; omega
    · obtain rfl : q = 16384 := by omega
      obtain ⟨A', c', rfl⟩ := ownsRow_slice hown.out
      go_wp2
      go_ret2
      exact ⟨A', c', rfl, hown.out, hb⟩
end Go.Proofs.Ytddoefkojlghnaa
