/- ranges: Has. -/
import Derived.Test.YthjlbbbkghigfaaRanges4
namespace Go.Proofs.Ythjlbbbkghigfaa
open Go.RowKit
set_option linter.unusedVariables false
set_option linter.unusedSimpArgs false

theorem cov_none {l : List (Int × Int)} (g : Good (-1) l) {t : Int} {p : Nat} (hP : 0 ≤ t → Parts l t p) (h : ∀ x, l[p]? = some x → x.2 = t) : cov l t = false := by
  cases hc : cov l t with
  | false => rfl
  | true =>
    obtain ⟨x, hx, h1, h2⟩ := cov_iff.1 hc
    have hm := g.mem x hx
    obtain ⟨i, hi, rfl⟩ := List.getElem_of_mem hx
    have hP := hP (by omega)
    have hx := List.getElem?_eq_getElem hi
    by_cases hip : i < p
    · have := hP.lo i _ hip hx; omega
    · rcases Nat.eq_or_lt_of_le (Nat.le_of_not_lt hip) with rfl | hlt
      · have := h _ hx; omega
      · have hy := List.getElem?_eq_getElem (show p < l.length by omega)
        have := h _ hy
        have := g.rise hlt hy hx
        omega
theorem cov_some {l : List (Int × Int)} (g : Good (-1) l) {t : Int} {p : Nat} (hP : 0 ≤ t → Parts l t p) {x : Int × Int} (hx : l[p]? = some x) (h : x.2 ≠ t) : cov l t = decide (x.1 ≤ t) := by
  have hm := g.mem x (List.mem_of_getElem? hx)
  rw [Bool.eq_iff_iff, cov_iff, decide_eq_true_iff]
  constructor
  · rintro ⟨y, hy, h1, h2⟩
    have hm2 := g.mem y hy
    have hP := hP (by omega)
    obtain ⟨i, hi, rfl⟩ := List.getElem_of_mem hy
    have hy := List.getElem?_eq_getElem hi
    by_cases hip : i < p
    · have := hP.lo i _ hip hy; omega
    · rcases Nat.eq_or_lt_of_le (Nat.le_of_not_lt hip) with rfl | hlt
      · rw [hy] at hx; cases hx; exact h1
      · have := g.rise hlt hx hy; omega
  · intro h1
    have hP := hP (by omega)
    have := hP.hi p x (Nat.le_refl _) hx
    exact ⟨x, List.mem_of_getElem? hx, h1, by omega⟩
set_option maxRecDepth 100000 in
set_option maxHeartbeats 1000000 in
theorem has_any (b : Nat) (v : Value) (l : List (Int × Int)) (N t : Int) (w : World) (h : SetAt w b v l N) (hg : Good (-1) l) (ht : t ≤ 9223372036854775807) :
    Calls Try.prog 31 #[.pointer (some ⟨b, 0, none⟩), .int .i64 t] w fun e w' => e = .returned (.bool (cov l t)) ∧ Below w.heap.size w w' := by
  have hln := hg.len'
  have HF := Lib.hid (from_any b v l N t w h hg (by omega) ht)
  have HG := Lib.hid hg
  have H := Lib.hid h
  obtain ⟨s, k, rfl⟩ := h.slice
  obtain ⟨n, hnn⟩ : ∃ n, n = l.length := ⟨_, rfl⟩
  have HN := Lib.hid hnn
  rw [← hnn] at hln H
  clear h hg hnn
  obtain ⟨z, hz⟩ : ∃ z, z = cov l t := ⟨_, rfl⟩
  have HZ := Lib.hid hz
  rw [← hz]
  clear hz
  go_enter Try.func31, Try.ntmps31
  go_wp2_with fail
  refine HF.out.mono ?_
  rintro e w1 ⟨p, hp, HP, rfl, hb1⟩
  have HB1 := Lib.hid hb1
  have HSW := Lib.hid (H.out.below hb1)
  obtain ⟨z0, z1⟩ := HSW.out.c
  have hpn : p ≤ n := by have := HN.out; omega
  clear hb1 hp
  by_cases hq : p < n
  · obtain ⟨x, hx⟩ : ∃ x, l[p]? = some x := ⟨_, List.getElem?_eq_getElem (by have := HN.out; omega)⟩
    obtain ⟨g, o, cc, he, y0, y1⟩ := HSW.out.rd.pair hx
    cases he
    have HX := Lib.hid hx
    have i1 : (0 : Int) ≤ (p : Int) := by omega
    have i2 : (p : Int) < (l.length : Int) := by omega
    clear hx
    by_cases hxt : x.2 = t
    · have HZ2 := Lib.hid (HZ.out.trans (cov_none HG.out HP.out (fun y hy => by rw [HX.out] at hy; cases hy; exact hxt)))
      have hx2 : (x.2 == t) = true := by simp [hxt]
      clear hxt
      by_cases hq2 : p + 1 < l.length
      · obtain ⟨y, hy⟩ : ∃ y, l[p + 1]? = some y := ⟨_, List.getElem?_eq_getElem hq2⟩
        obtain ⟨g', o', cc', he, u0, u1⟩ := HSW.out.rd.pair hy
        cases he
        have hyt : ¬ y.1 ≤ t := by
          have := HG.out.rise (Nat.lt_succ_self p) HX.out hy
          have : x.2 = t := by simpa using hx2
          omega
        have i3 : ((p : Int) + 1) < (l.length : Int) := by omega
        have i4 : (0 : Int) ≤ (p : Int) + 1 := by omega
        have i5 : ((p : Int) + 1).toNat = p + 1 := by omega
        clear hy
        go_wp2_with fail
        go_ret
        exact ⟨ret_bool (a := decide (y.1 ≤ t)) (by rw [HZ2.out]; exact decide_eq_false (by omega)), HB1.out⟩
      · have i3 : ¬ ((p : Int) + 1) < (l.length : Int) := by omega
        go_wp2_with fail
        go_ret
        exact ⟨ret_bool (a := false) HZ2.out.symm, HB1.out⟩
    · have HZ2 := Lib.hid (HZ.out.trans (cov_some HG.out HP.out HX.out hxt))
      have hx2 : (x.2 == t) = false := by simp [hxt]
      clear hxt
      go_wp2_with fail
      go_ret
      exact ⟨ret_bool (a := decide (x.1 ≤ t)) HZ2.out.symm, HB1.out⟩
  · obtain rfl : p = n := by omega
    have HZ2 := Lib.hid (HZ.out.trans (cov_none HG.out HP.out (fun y hy => by have := (List.getElem?_eq_some_iff.1 hy).1; have := HN.out; omega)))
    have t1 : ¬ ((p : Int) < (p : Int)) := by omega
    go_wp2_with fail
    go_ret
    exact ⟨ret_bool (a := false) HZ2.out.symm, HB1.out⟩
end Go.Proofs.Ythjlbbbkghigfaa
