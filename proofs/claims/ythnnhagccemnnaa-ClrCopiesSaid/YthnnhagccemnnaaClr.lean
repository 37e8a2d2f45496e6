/- clr: a report; the search. -/
import Derived.Test.YthnnhagccemnnaaCloneTold
import Derived.Test.YthnnhagccemnnaaAppS
import Derived.Test.YthnnhagccemnnaaElem
import Derived.Test.YthnnhagccemnnaaBlk
import Derived.Test.YthnnhagccemnnaaCopy
namespace Go.Proofs.Ythnnhagccemnnaa
open Go.RowKit
set_option linter.unusedVariables false
set_option linter.unusedSimpArgs false

/-- a report -/
structure Told where
  frm : Int
  tick : Int
  rate : Int
def toldCells (o : Told) : List Value := [.int .i64 o.frm, .int .i64 o.tick, .int .u64 o.rate]
theorem toldCells_len (o : Told) : (toldCells o).length = 3 := rfl

def cmpI (a b : Int) : Int := if a < b then -1 else if b < a then 1 else 0
set_option maxRecDepth 100000 in
theorem isNaN_any (a : Int) (w : World) : Calls Try.prog 36 #[.int .i64 a] w fun e w' => e = .returned (.bool false) ∧ w = w' := by
  go_enter Try.func36, Try.ntmps36
  go_wp2
  go_ret
  exact ⟨by simp, rfl⟩
set_option maxRecDepth 100000 in
theorem compare_any (a b : Int) (w : World) : Calls Try.prog 29 #[.int .i64 a, .int .i64 b] w fun e w' => e = .returned (.int .i64 (cmpI a b)) ∧ w = w' := by
  unfold cmpI
  rcases (by omega : a < b ∨ (¬ a < b ∧ b < a) ∨ (¬ a < b ∧ ¬ b < a)) with h | ⟨h, h2⟩ | ⟨h, h2⟩
  · rw [if_pos h]
    go_enter Try.func29, Try.ntmps29
    go_wp2_with (go_at_call 36; refine (isNaN_any _ _).mono ?_; rintro e w' ⟨rfl, rfl⟩)
    go_ret
    exact ⟨rfl, rfl⟩
  · rw [if_neg h, if_pos h2]
    go_enter Try.func29, Try.ntmps29
    go_wp2_with (go_at_call 36; refine (isNaN_any _ _).mono ?_; rintro e w' ⟨rfl, rfl⟩)
    go_ret
    exact ⟨rfl, rfl⟩
  · rw [if_neg h, if_neg h2]
    go_enter Try.func29, Try.ntmps29
    go_wp2_with (go_at_call 36; refine (isNaN_any _ _).mono ?_; rintro e w' ⟨rfl, rfl⟩)
    go_ret
    exact ⟨rfl, rfl⟩
set_option maxRecDepth 100000 in
theorem findc_any (o : Told) (t : Int) (w : World) : Calls Try.prog 28 #[.agg #[.int .i64 o.frm, .int .i64 o.tick, .int .u64 o.rate], .int .i64 t] w fun e w' => e = .returned (.int .i64 (cmpI o.frm t)) ∧ Below w.heap.size w w' := by
  go_enter Try.func28, Try.ntmps28
  go_wp2_with fail
  refine (compare_any _ _ _).mono ?_
  rintro e w' ⟨rfl, rfl⟩
  go_wp2
  go_ret
  exact ⟨rfl, (Below.refl _ _).alloc (Nat.le_refl _) _⟩

/-- p parts the tolds: those ahead of it lie below t, the others do not -/
structure Parts (l : List Told) (t : Int) (p : Nat) : Prop where
  le : p ≤ l.length
  lo : ∀ q o, q < p → l[q]? = some o → o.frm < t
  hi : ∀ q o, p ≤ q → l[q]? = some o → t ≤ o.frm
/-- rising by blocks -/
def Rising (l : List Told) : Prop := ∀ (q r : Nat) (o o' : Told), q < r → l[q]? = some o → l[r]? = some o' → o.frm < o'.frm
def ToldsAt (w : World) (v : Value) (l : List Told) : Prop := Reads w 3 v l.length (l.flatMap toldCells)
theorem ToldsAt.at {w : World} {v : Value} {x : List Told} (h : ToldsAt w v x) {k : Nat} {a : Told} (hk : x[k]? = some a) : ∃ g p c, v = .slice (some ⟨g, p, none⟩) x.length c ∧ w.cell? ⟨g, p + k * 3, none⟩ = some (.int .i64 a.frm) ∧ w.cell? ⟨g, p + k * 3 + 1, none⟩ = some (.int .i64 a.tick) ∧ w.cell? ⟨g, p + k * 3 + 2, none⟩ = some (.int .u64 a.rate) := by
  obtain ⟨g, p, c, he, hc⟩ := Reads.elem h toldCells_len (by omega) hk
  exact ⟨g, p, c, he, hc 0 _ rfl, hc 1 _ rfl, hc 2 _ rfl⟩
/-- is it there? -/
def hit (l : List Told) (t : Int) (p : Nat) : Bool := match l[p]? with | some o => decide (o.frm = t) | none => false
theorem cmpI_lt {a b : Int} : cmpI a b < 0 ↔ a < b := by unfold cmpI; split; · simp [*]
                                                         split <;> simp [*]
theorem cmpI_eq {a b : Int} : cmpI a b = 0 ↔ a = b := by unfold cmpI; split; · simp; omega
                                                         split
                                                         · simp; omega
                                                         · simp; omega

set_option maxRecDepth 100000 in
set_option maxHeartbeats 400000 in
theorem search_any (v : Value) (l : List Told) (t : Int) (w : World) (h : ToldsAt w v l) (hr : Rising l) (hn : l.length ≤ 1000000000) :
    Calls Try.prog 27 #[v, .int .i64 t, .func (.func 28) #[] #[]] w fun e w' => ∃ p, Parts l t p ∧ e = .returned (.tuple #[.int .i64 p, .bool (hit l t p)]) ∧ Below w.heap.size w w' := by
  obtain ⟨A, c, rfl, -⟩ := h.val
  have H := Lib.hid h
  have HR := Lib.hid hr
  clear h hr
  go_enter Try.func27, Try.ntmps27
  go_wp2
  go_loopw [9, 10, 11] (fun i j _ wr => ∃ a b : Nat, i = .int .i64 a ∧ j = .int .i64 b ∧ a ≤ b ∧ b ≤ l.length ∧ Hid (∀ q o, q < a → l[q]? = some o → o.frm < t) ∧ Hid (∀ q o, b ≤ q → l[q]? = some o → t ≤ o.frm) ∧ Hid (Below w.heap.size w wr)) (fun i j _ _ => (intOf j).toNat - (intOf i).toNat)
  case atStart => exact ⟨0, l.length, rfl, rfl, by omega, Nat.le_refl _, (fun q o hq => by omega), (fun q o hq ho => by have := (List.getElem?_eq_some_iff.1 ho).1; omega), Below.refl _ _⟩
  case round =>
    obtain ⟨a, b, rfl, rfl, hab, hbl, HLO, HHI, HB⟩ := hrel
    by_cases hlt : a < b
    · obtain ⟨m, hm⟩ : ∃ m, m = (a + b) / 2 := ⟨_, rfl⟩
      have hma : a ≤ m := by omega
      have hmb : m < b := by omega
      have ho := List.getElem?_eq_getElem (show m < l.length by omega)
      obtain ⟨o, hoe⟩ : ∃ o, o = l[m] := ⟨_, rfl⟩
      rw [← hoe] at ho
      obtain ⟨g, p, c', he, o0, o1, o2⟩ := ToldsAt.at (Reads.below H.out HB.out) ho
      cases he
      have HO := Lib.hid ho
      have j1 : ((a : Int) + (b : Int)) / 2 = (m : Int) := by omega
      have j2 : (0 : Int) ≤ (a : Int) + (b : Int) := by omega
      have i1 : (0 : Int) ≤ (m : Int) := by omega
      have i2 : (m : Int) < (l.length : Int) := by omega
      clear hoe ho hm
      go_wp2_with fail
      refine (findc_any o t _).mono ?_
      rintro e w1 ⟨rfl, hb1⟩
      have HB1 := Lib.hid (bmore HB.out hb1 HB.out.size)
      clear hb1 o0 o1 o2
      by_cases hc : o.frm < t
      · have t1 : cmpI o.frm t < 0 := cmpI_lt.2 hc
        have HL2 : Hid (∀ q o', q < m + 1 → l[q]? = some o' → o'.frm < t) := by
          intro q o' hq ho'
          by_cases e : q = m
          · subst e; rw [HO.out] at ho'; cases ho'; exact hc
          · have := HR.out q m o' o (by omega) ho' HO.out; omega
        generalize cmpI o.frm t = x at *
        go_wp2
        go_roundw
        case rel => exact ⟨m + 1, b, by go_num, rfl, by omega, hbl, HL2, HHI, HB1⟩
        case measure => simp [intOf]; omega
      · have t1 : ¬ cmpI o.frm t < 0 := fun h => hc (cmpI_lt.1 h)
        have HL2 : Hid (∀ q o', m ≤ q → l[q]? = some o' → t ≤ o'.frm) := by
          intro q o' hq ho'
          by_cases e : q = m
          · subst e; rw [HO.out] at ho'; cases ho'; omega
          · have := HR.out m q o o' (by omega) HO.out ho'; omega
        generalize cmpI o.frm t = x at *
        go_wp2
        go_roundw
        case rel => exact ⟨a, m, rfl, rfl, hma, by omega, HLO, HL2, HB1⟩
        case measure => simp [intOf]; omega
    · obtain rfl : a = b := by omega
      have HP : Hid (Parts l t a) := ⟨hbl, HLO.out, HHI.out⟩
      by_cases hl : a < l.length
      · have ho := List.getElem?_eq_getElem hl
        obtain ⟨o, hoe⟩ : ∃ o, o = l[a] := ⟨_, rfl⟩
        rw [← hoe] at ho
        obtain ⟨g, p, c', he, o0, o1, o2⟩ := ToldsAt.at (Reads.below H.out HB.out) ho
        cases he
        have HT : Hid (hit l t a = decide (o.frm = t)) := by show hit l t a = _; unfold hit; rw [ho]
        have i1 : (0 : Int) ≤ (a : Int) := by omega
        have i2 : (a : Int) < (l.length : Int) := by omega
        clear hoe ho
        go_wp2_with fail
        refine (findc_any o t _).mono ?_
        rintro e w1 ⟨rfl, hb1⟩
        have HB1 := Lib.hid (bmore HB.out hb1 HB.out.size)
        have HE : Hid ((cmpI o.frm t == 0) = decide (o.frm = t)) := by
          show _ = _
          rw [Bool.eq_iff_iff, beq_iff_eq, decide_eq_true_eq]; exact cmpI_eq
        clear hb1 o0 o1 o2
        go_wp2
        go_ret2
        exact ⟨a, HP.out, by rw [HT.out, ← HE.out]; rfl, HB1.out⟩
      · have HT : Hid (hit l t a = false) := by show hit l t a = _; unfold hit; rw [List.getElem?_eq_none (by omega)]
        have t1 : ¬ ((a : Int) < (l.length : Int)) := by omega
        go_wp2
        go_ret2
        exact ⟨a, HP.out, by rw [HT.out]; rfl, HB.out⟩
end Go.Proofs.Ythnnhagccemnnaa
