/- clr: may a report be taken? -/
import Derived.Test.YthnnhagccemnnaaClr3
import Derived.Deep.QuietTactic
import Derived.BigQuiet
namespace Go.Proofs.Ythnnhagccemnnaa
open Go.RowKit
set_option linter.unusedVariables false
set_option linter.unusedSimpArgs false

def timeB (n : Int) : Bool := decide (0 ≤ n) && decide (n ≤ 1099511627776)
theorem timeB_iff {n : Int} : timeB n = true ↔ 0 ≤ n ∧ n ≤ 1099511627776 := by unfold timeB; simp
theorem time_any (n : Int) (w : World) : Calls Try.prog 26 #[.int .i64 n] w fun e w' => e = .returned (.bool (timeB n)) ∧ w = w' := by
  have hb : timeB n = (if 0 ≤ n then decide (n ≤ 1099511627776) else false) := by unfold timeB; split <;> simp [*]
  rw [hb]
  clear hb
  by_cases h : 0 ≤ n
  · rw [if_pos h]
    go_enter Try.func26, Try.ntmps26
    go_wp2
    go_ret
    exact ⟨rfl, rfl⟩
  · rw [if_neg h]
    go_enter Try.func26, Try.ntmps26
    go_wp2
    go_ret
    exact ⟨rfl, rfl⟩

def mayE (l : List Told) (lim : Int) (t : Told) (now : Int) : Int :=
  if t.frm < 0 ∨ 64 ≤ t.frm ∨ timeB t.tick = false ∨ timeB now = false then 11
  else if lim < now - t.tick ∨ now < t.tick ∨ ((lk l t.frm).isSome = true ∧ t.tick < (gotV (lk l t.frm)).tick) then 23 else 0

set_option maxRecDepth 100000 in
theorem may_range (b : Nat) (v : Value) (l : List Told) (lim c now : Int) (t : Told) (w : World) (h : BkAt w b v l lim c) (hn : l.length ≤ 1000) (hr : t.frm < 0 ∨ 64 ≤ t.frm ∨ timeB t.tick = false ∨ timeB now = false) :
    Calls Try.prog 18 #[.pointer (some ⟨b, 0, none⟩), .agg #[.int .i64 t.frm, .int .i64 t.tick, .int .u64 t.rate], .int .i64 now] w fun e w' => e = .returned (.int .i64 11) ∧ Below w.heap.size w w' := by
  have HT := Lib.hid (time_any)
  have hba : Below w.heap.size w (w.alloc (.cells #[.int .i64 t.frm, .int .i64 t.tick, .int .u64 t.rate] 34)) := (Below.refl _ w).alloc (Nat.le_refl _) _
  have HBA := Lib.hid hba
  obtain ⟨a0, a1, a2⟩ := blk3 (Blk.new w #[.int .i64 t.frm, .int .i64 t.tick, .int .u64 t.rate] 34)
  clear h hba
  by_cases h1 : t.frm < 0
  · clear hr
    go_enter Try.func18, Try.ntmps18
    go_wp2_with fail
    go_ret
    exact ⟨rfl, HBA.out⟩
  by_cases h2 : 64 ≤ t.frm
  · clear hr
    go_enter Try.func18, Try.ntmps18
    go_wp2_with fail
    go_ret
    exact ⟨rfl, HBA.out⟩
  have h3 : t.frm < 64 := by omega
  by_cases h4 : timeB t.tick = false
  · clear hr
    go_enter Try.func18, Try.ntmps18
    go_wp2_with fail
    refine (HT.out t.tick _).mono ?_
    rintro e w1 ⟨rfl, rfl⟩
    rw [h4]
    go_wp2_with fail
    go_ret
    exact ⟨rfl, HBA.out⟩
  · have h5 : timeB t.tick = true := by simpa using h4
    have h6 : timeB now = false := by
      rcases hr with h | h | h | h
      · omega
      · omega
      · exact absurd h h4
      · exact h
    clear hr
    go_enter Try.func18, Try.ntmps18
    go_wp2_with fail
    refine (HT.out t.tick _).mono ?_
    rintro e w1 ⟨rfl, rfl⟩
    rw [h5]
    go_wp2_with fail
    refine (HT.out now _).mono ?_
    rintro e w1 ⟨rfl, rfl⟩
    rw [h6]
    go_wp2_with fail
    go_ret
    exact ⟨rfl, HBA.out⟩

set_option maxRecDepth 100000 in
theorem may_in (b : Nat) (v : Value) (l : List Told) (lim c now : Int) (t : Told) (w : World) (h : BkAt w b v l lim c) (hn : l.length ≤ 1000) (h1 : 0 ≤ t.frm) (h2 : t.frm < 64) (h3 : timeB t.tick = true) (h4 : timeB now = true) :
    Calls Try.prog 18 #[.pointer (some ⟨b, 0, none⟩), .agg #[.int .i64 t.frm, .int .i64 t.tick, .int .u64 t.rate], .int .i64 now] w fun e w' => e = .returned (.int .i64 (mayE l lim t now)) ∧ Below w.heap.size w w' := by
  have hm : mayE l lim t now = if lim < now - t.tick ∨ now < t.tick ∨ ((lk l t.frm).isSome = true ∧ t.tick < (gotV (lk l t.frm)).tick) then 23 else 0 := by
    unfold mayE; rw [if_neg]; simp [h3, h4]; omega
  rw [hm]
  clear hm
  have hf := fun w h => of_any b v l lim c t.frm w h hn
  have hv : ofV (lk l t.frm) = .tuple #[.agg #[.int .i64 (gotV (lk l t.frm)).frm, .int .i64 (gotV (lk l t.frm)).tick, .int .u64 (gotV (lk l t.frm)).rate], .int .i64 (if (lk l t.frm).isSome then 0 else 14)] := by
    cases lk l t.frm <;> rfl
  rw [hv] at hf
  generalize gotV (lk l t.frm) = o at *
  generalize hs : (lk l t.frm).isSome = s at *
  obtain ⟨t1, t2⟩ := timeB_iff.1 h3
  obtain ⟨n1, n2⟩ := timeB_iff.1 h4
  have HT := Lib.hid (time_any)
  have H3 := Lib.hid h3
  have H4 := Lib.hid h4
  have HF := Lib.hid hf
  have H := Lib.hid h
  have hba : Below w.heap.size w (w.alloc (.cells #[.int .i64 t.frm, .int .i64 t.tick, .int .u64 t.rate] 34)) := (Below.refl _ w).alloc (Nat.le_refl _) _
  have HBA := Lib.hid hba
  have HB := Lib.hid (Blk.new w #[.int .i64 t.frm, .int .i64 t.tick, .int .u64 t.rate] 34)
  have hw : IntKind.i64.wrap (now - t.tick) = now - t.tick := IntWalk.i64_in _ (by omega)
  have HW := Lib.hid hw
  obtain ⟨a0, a1, a2⟩ := blk3 HB.out
  clear hf hv hba h hw h3 h4
  have key : ∀ (d1 d2 d3 : Bool), decide (lim < now - t.tick) = d1 → decide (now < t.tick) = d2 → (s && decide (t.tick < o.tick)) = d3 →
      Calls Try.prog 18 #[.pointer (some ⟨b, 0, none⟩), .agg #[.int .i64 t.frm, .int .i64 t.tick, .int .u64 t.rate], .int .i64 now] w fun e w' => e = .returned (.int .i64 (if d1 || d2 || d3 then 23 else 0)) ∧ Below w.heap.size w w' := by
    intro d1 d2 d3 e1 e2 e3
    go_enter Try.func18, Try.ntmps18
    go_wp2_with fail
    refine (HT.out t.tick _).mono ?_
    rintro e w1 ⟨rfl, rfl⟩
    rw [H3.out]
    go_wp2_with fail
    refine (HT.out now _).mono ?_
    rintro e w1 ⟨rfl, rfl⟩
    rw [H4.out]
    go_wp2_with fail
    refine (HF.out _ (H.out.below HBA.out)).mono ?_
    rintro e w1 ⟨rfl, hb1⟩
    have HQ := Lib.hid (bmore HBA.out hb1 HBA.out.size)
    have h1 := (H.out.below HBA.out).below hb1
    obtain ⟨b0, b1, b2⟩ := blk3 (HB.out.below hb1)
    obtain ⟨c0, c1, c2⟩ := blk3 h1.str
    have hlt : w.heap.size < w1.heap.size := by have := hb1.size; simp at this; omega
    have hblt : b < w1.heap.size := h1.str.lt
    clear hb1 h1
    have fin : ∀ w', Below w.heap.size w1 w' → Below w.heap.size w w' := fun w' => HQ.out.trans
    cases d1
    · have e1 : ¬ lim < now - t.tick := by simpa using e1
      cases d2
      · have e2 : ¬ now < t.tick := by simpa using e2
        cases s
        · obtain rfl : d3 = false := by simpa using e3.symm
          go_wp2_with fail
          have hw := HW.out
          go_quiet (fail)
          go_wp2
          go_ret
          exact ⟨rfl, fin _ (below_drewN ((Below.refl w.heap.size w1).alloc (Nat.le_of_lt hlt) _) _)⟩
        · cases d3
          · have e3 : ¬ t.tick < o.tick := by simpa using e3
            go_wp2_with fail
            have hw := HW.out
            go_quiet (fail)
            go_wp2
            go_ret
            exact ⟨rfl, fin _ (below_drewN ((Below.refl w.heap.size w1).alloc (Nat.le_of_lt hlt) _) _)⟩
          · have e3 : t.tick < o.tick := by simpa using e3
            go_wp2_with fail
            have hw := HW.out
            go_quiet (fail)
            go_wp2
            go_ret
            exact ⟨rfl, fin _ (below_drewN ((Below.refl w.heap.size w1).alloc (Nat.le_of_lt hlt) _) _)⟩
      · have e2 : now < t.tick := by simpa using e2
        clear e3
        cases s
        all_goals go_wp2_with fail
        all_goals have hw := HW.out
        all_goals go_quiet (fail)
        all_goals go_wp2
        all_goals go_ret
        all_goals exact ⟨rfl, fin _ (below_drewN ((Below.refl w.heap.size w1).alloc (Nat.le_of_lt hlt) _) _)⟩
    · have e1 : lim < now - t.tick := by simpa using e1
      clear e3 e2
      cases s
      all_goals go_wp2_with fail
      all_goals have hw := HW.out
      all_goals go_quiet (fail)
      all_goals go_wp2
      all_goals go_ret
      all_goals exact ⟨rfl, fin _ (below_drewN ((Below.refl w.heap.size w1).alloc (Nat.le_of_lt hlt) _) _)⟩
  refine (key _ _ _ rfl rfl rfl).mono ?_
  rintro e w' ⟨rfl, hb⟩
  refine ⟨?_, hb⟩
  congr 4
  by_cases g1 : lim < now - t.tick <;> by_cases g2 : now < t.tick <;> by_cases g3 : t.tick < o.tick <;> cases s <;> simp [g1, g2, g3]

theorem may_any (b : Nat) (v : Value) (l : List Told) (lim c now : Int) (t : Told) (w : World) (h : BkAt w b v l lim c) (hn : l.length ≤ 1000) :
    Calls Try.prog 18 #[.pointer (some ⟨b, 0, none⟩), .agg #[.int .i64 t.frm, .int .i64 t.tick, .int .u64 t.rate], .int .i64 now] w fun e w' => e = .returned (.int .i64 (mayE l lim t now)) ∧ Below w.heap.size w w' := by
  by_cases hr : t.frm < 0 ∨ 64 ≤ t.frm ∨ timeB t.tick = false ∨ timeB now = false
  · have := may_range b v l lim c now t w h hn hr
    unfold mayE
    rw [if_pos hr]
    exact this
  · have h3 : timeB t.tick = true := by cases h : timeB t.tick <;> simp_all
    have h4 : timeB now = true := by cases h : timeB now <;> simp_all
    exact may_in b v l lim c now t w h hn (by omega) (by omega) h3 h4
end Go.Proofs.Ythnnhagccemnnaa
