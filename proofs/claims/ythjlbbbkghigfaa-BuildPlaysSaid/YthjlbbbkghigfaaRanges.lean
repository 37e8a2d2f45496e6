/- ranges: a set in memory; the search. -/
import Derived.Test.YthjlbbbkghigfaaRgPlain
namespace Go.Proofs.Ythjlbbbkghigfaa
open Go.RowKit
set_option linter.unusedVariables false
set_option linter.unusedSimpArgs false

set_option maxRecDepth 100000 in
theorem fromc_any (x : Int × Int) (t : Int) (w : World) : Calls Try.prog 49 #[.agg #[.int .i64 x.1, .int .i64 x.2], .int .i64 t] w fun e w' => e = .returned (.int .i64 (wrap64 (x.2 - t))) ∧ Below w.heap.size w w' := by
  have hbk := Blk.new w #[.int .i64 x.1, .int .i64 x.2] 46
  have q1 := hbk.cell 1 rfl
  clear hbk
  go_enter Try.func49, Try.ntmps49
  go_wp2
  go_ret
  exact ⟨by first | rfl | simp, (Below.refl _ _).alloc (Nat.le_refl _) _⟩
def SrchR (l : List (Int × Int)) (t : Int) (w w' : World) (e : Ending) : Prop := ∃ (p : Nat) (bo : Bool), p ≤ l.length ∧ Hid (0 ≤ t → Parts l t p) ∧ e = .returned (.tuple #[.int .i64 p, .bool bo]) ∧ Below w.heap.size w w'
set_option maxRecDepth 100000 in
set_option maxHeartbeats 400000 in
theorem search_any (v : Value) (l : List (Int × Int)) (t : Int) (w : World) (h : Reads w 2 v l.length (l.flatMap pairCells)) (hg : Good (-1) l) (hn : l.length ≤ 1000000000) (ht : t ≤ 9223372036854775807) :
    Calls Try.prog 48 #[v, .int .i64 t, .func (.func 49) #[] #[]] w fun e w' => SrchR l t w w' e := by
  obtain ⟨A, c, rfl, -⟩ := h.val
  have H := Lib.hid h
  have HG := Lib.hid hg
  clear h hg
  go_enter Try.func48, Try.ntmps48
  go_wp2
  go_loopw [9, 10, 11] (fun i j _ wr => ∃ a b : Nat, i = .int .i64 a ∧ j = .int .i64 b ∧ a ≤ b ∧ b ≤ l.length ∧ Hid (0 ≤ t → ∀ q x, q < a → l[q]? = some x → x.2 < t) ∧ Hid (0 ≤ t → ∀ q x, b ≤ q → l[q]? = some x → t ≤ x.2) ∧ Hid (Below w.heap.size w wr)) (fun i j _ _ => (intOf j).toNat - (intOf i).toNat)
  case atStart => exact ⟨0, l.length, rfl, rfl, by omega, Nat.le_refl _, (fun _ q x hq => by omega), (fun _ q x hq ho => by have := (List.getElem?_eq_some_iff.1 ho).1; omega), Below.refl _ _⟩
  case round =>
    obtain ⟨a, b, rfl, rfl, hab, hbl, HLO, HHI, HB⟩ := hrel
    by_cases hlt : a < b
    · obtain ⟨m, hm⟩ : ∃ m, m = (a + b) / 2 := ⟨_, rfl⟩
      have hma : a ≤ m := by omega
      have hmb : m < b := by omega
      have ho := List.getElem?_eq_getElem (show m < l.length by omega)
      obtain ⟨o, hoe⟩ : ∃ o, o = l[m] := ⟨_, rfl⟩
      rw [← hoe] at ho
      obtain ⟨g, p, c', he, o0, o1⟩ := Reads.pair (Reads.below H.out HB.out) ho
      cases he
      have HO := Lib.hid ho
      have hom := HG.out.mem o (List.mem_of_getElem? ho)
      obtain ⟨k1, k2, k3⟩ := hom
      have j1 : ((a : Int) + (b : Int)) / 2 = (m : Int) := by omega
      have j2 : (0 : Int) ≤ (a : Int) + (b : Int) := by omega
      have i1 : (0 : Int) ≤ (m : Int) := by omega
      have i2 : (m : Int) < (l.length : Int) := by omega
      clear hoe ho hm
      go_wp2_with fail
      refine (fromc_any o t _).mono ?_
      rintro e w1 ⟨rfl, hb1⟩
      have HB1 := Lib.hid (bmore HB.out hb1 HB.out.size)
      have hcv : 0 ≤ t → (wrap64 (o.2 - t) < 0 ↔ o.2 < t) := by
        intro h0
        unfold wrap64
        constructor <;> intro h <;> omega
      clear hb1 o0 o1
      generalize wrap64 (o.2 - t) = x at *
      have HCV := Lib.hid hcv
      clear hcv
      by_cases hc : x < 0
      · have HL2 : Hid (0 ≤ t → ∀ q o', q < m + 1 → l[q]? = some o' → o'.2 < t) := by
          intro h0 q o' hq ho'
          have h1 := (HCV.out h0).1 hc
          by_cases e : q = m
          · subst e; rw [HO.out] at ho'; cases ho'; exact h1
          · have := HG.out.rise (i := q) (j := m) (by omega) ho' HO.out; omega
        go_wp2
        go_roundw
        case rel => exact ⟨m + 1, b, by go_num, rfl, by omega, hbl, HL2, HHI, HB1⟩
        case measure => simp [intOf]; omega
      · have HL2 : Hid (0 ≤ t → ∀ q o', m ≤ q → l[q]? = some o' → t ≤ o'.2) := by
          intro h0 q o' hq ho'
          have h1 : ¬ o.2 < t := fun h => hc ((HCV.out h0).2 h)
          by_cases e : q = m
          · subst e; rw [HO.out] at ho'; cases ho'; omega
          · have := HG.out.rise (i := m) (j := q) (by omega) HO.out ho'
            have := HG.out.mem o' (List.mem_of_getElem? ho'); omega
        have hc' : 0 ≤ x := by omega
        clear hc
        go_wp2
        go_roundw
        case rel => exact ⟨a, m, rfl, rfl, hma, by omega, HLO, HL2, HB1⟩
        case measure => simp [intOf]; omega
    · obtain rfl : a = b := by omega
      have HP : Hid (0 ≤ t → Parts l t a) := fun h0 => ⟨HLO.out h0, HHI.out h0⟩
      by_cases hl : a < l.length
      · have ho := List.getElem?_eq_getElem hl
        obtain ⟨o, hoe⟩ : ∃ o, o = l[a] := ⟨_, rfl⟩
        rw [← hoe] at ho
        obtain ⟨g, p, c', he, o0, o1⟩ := Reads.pair (Reads.below H.out HB.out) ho
        cases he
        have i1 : (0 : Int) ≤ (a : Int) := by omega
        have i2 : (a : Int) < (l.length : Int) := by omega
        clear hoe ho
        go_wp2_with fail
        refine (fromc_any o t _).mono ?_
        rintro e w1 ⟨rfl, hb1⟩
        have HB1 := Lib.hid (bmore HB.out hb1 HB.out.size)
        clear hb1 o0 o1
        go_wp2
        go_ret2
        exact ⟨a, _, hbl, HP, rfl, HB1.out⟩
      · have t1 : ¬ ((a : Int) < (l.length : Int)) := by omega
        go_wp2
        go_ret2
        exact ⟨a, _, hbl, HP, rfl, HB.out⟩
end Go.Proofs.Ythjlbbbkghigfaa
