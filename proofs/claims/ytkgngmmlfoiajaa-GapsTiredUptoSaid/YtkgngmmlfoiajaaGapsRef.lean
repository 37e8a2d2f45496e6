/- gaps: the reference: Find, Drop, Miss. -/
import Derived.Test.YtkgngmmlfoiajaaGaps3
import Derived.Test.YtkgngmmlfoiajaaApp2
namespace Go.Proofs.Ytkgngmmlfoiajaa
open Go.RowKit
set_option linter.unusedVariables false
set_option linter.unusedSimpArgs false

theorem info_rhole : (Try.prog.info? 49).map (fun i => (i.zero, i.size, i.bytes)) = some (some (.agg #[.int .i64 0, .int .i64 0, .int .i64 0, .int .i64 0]), 4, 32) := by kernel_rfl
/-- what Find tells -/
def FindR (l : List Hole) (r z : Int) : Prop := (∃ (k : Nat) (o : Hole), z = k ∧ l[k]? = some o ∧ o.block = r) ∨ (z = -1 ∧ has l r = false)
theorem FindR.ge {l : List Hole} {r z : Int} (h : FindR l r z) : decide (0 ≤ z) = has l r := by
  rcases h with ⟨k, o, rfl, ho, hb⟩ | ⟨rfl, h⟩
  · have : has l r ≠ false := fun h => has_false.1 h o (List.mem_of_getElem? ho) hb
    rw [decide_eq_true (by omega)]
    cases e : has l r
    · exact absurd e this
    · rfl
  · rw [h]; rfl

set_option maxRecDepth 100000 in
set_option maxHeartbeats 400000 in
theorem rfind_any (A : Option Addr) (c n : Nat) (l : List Hole) (r : Int) (w : World) (h : Reads w 4 (.slice A n c) n (l.flatMap holeCells)) (hl : n = l.length) (hn : n ≤ 1000000) :
    Calls Try.prog 15 #[.slice A n c, .int .i64 r] w fun e w' => ∃ z, FindR l r z ∧ e = .returned (.int .i64 z) ∧ w = w' := by
  have HX := Lib.hid h
  have HL := Lib.hid hl
  clear h hl
  go_enter Try.func15, Try.ntmps15
  go_wp2
  go_loopw [5] (fun i wr => ∃ k : Nat, k ≤ n ∧ i = .int .i64 k ∧ Hid (∀ o ∈ l.take k, o.block ≠ r) ∧ w = wr) (fun i _ => n - (intOf i).toNat)
  case atStart => exact ⟨0, by omega, rfl, by intro o ho; simp at ho, by first | rfl | trivial⟩
  case round =>
    obtain ⟨k, hk, rfl, HT, rfl⟩ := hrel
    by_cases hlt : k < n
    · obtain ⟨a, ha⟩ : ∃ a, l[k]? = some a := ⟨_, List.getElem?_eq_getElem (by rw [← HL.out]; exact hlt)⟩
      obtain ⟨g1, p1, c1, he1, hcs⟩ := Reads.elem HX.out holeCells_len (by omega) ha
      have a0 := hcs 0 _ rfl
      cases he1
      have i1 : (0 : Int) ≤ (k : Int) := by omega
      have i2 : (k : Int) < (n : Int) := by omega
      have HA := Lib.hid ha
      simp only [Nat.add_zero] at a0
      clear ha hcs
      by_cases e : a.block = r
      · have t1 : (a.block == r) = true := by rw [beq_iff_eq]; exact e
        have hf : FindR l r (k : Int) := .inl ⟨k, a, rfl, HA.out, e⟩
        clear e
        go_wp2
        go_ret
        exact ⟨_, hf, rfl, rfl⟩
      · have t1 : (a.block == r) = false := by rw [beq_eq_false_iff_ne]; exact e
        have HT2 : Hid (∀ o ∈ l.take (k + 1), o.block ≠ r) := by
          intro o ho
          rw [List.take_add_one, HA.out, List.mem_append] at ho
          rcases ho with ho | ho
          · exact HT.out o ho
          · have : o = a := by simpa using ho
            rw [this]; exact e
        clear e
        go_wp2
        go_roundw
        case rel => exact ⟨k + 1, by omega, by go_num, HT2, by first | rfl | trivial⟩
        case measure => simp [intOf]; omega
    · obtain rfl : k = n := by omega
      have hf : FindR l r (-1) := .inr ⟨rfl, has_false.2 (by have := HT.out; rw [List.take_of_length_le (by rw [← HL.out]; omega)] at this; exact this)⟩
      go_wp2
      go_ret
      exact ⟨_, hf, rfl, rfl⟩

theorem drp_take_yes {l : List Hole} {k : Nat} {o : Hole} {r : Int} (h : l[k]? = some o) (hr : o.block ≠ r) : drp (l.take (k + 1)) r = drp (l.take k) r ++ [o] := by
  rw [List.take_add_one, h]; simp [drp, hr]
theorem drp_take_no {l : List Hole} {k : Nat} {o : Hole} {r : Int} (h : l[k]? = some o) (hr : o.block = r) : drp (l.take (k + 1)) r = drp (l.take k) r := by
  rw [List.take_add_one, h]; simp [drp, hr]
theorem hc4 (o : Hole) : holeCells o = #[Value.int .i64 o.block, .int .i64 o.due, .int .i64 o.wait, .int .i64 o.tries].toList := rfl

set_option maxRecDepth 100000 in
set_option maxHeartbeats 1000000 in
theorem rdrop_any (A : Option Addr) (c n : Nat) (l : List Hole) (r : Int) (w : World) (h : Reads w 4 (.slice A n c) n (l.flatMap holeCells)) (hl : n = l.length) (hn : n ≤ 1000000) :
    Calls Try.prog 25 #[.slice A n c, .int .i64 r] w fun e w' => ∃ A' c', e = .returned (.slice A' (drp l r).length c') ∧ w'.ownsRow w.heap.size 49 4 (.slice A' (drp l r).length c') (drp l r).length ((drp l r).flatMap holeCells) ∧ Below w.heap.size w w' := by
  obtain ⟨i0, hi, hz0, hz1, hz2⟩ := info_parts info_rhole
  have HX := Lib.hid h
  have HL := Lib.hid hl
  clear h hl
  go_enter Try.func25, Try.ntmps25
  go_wp2
  go_loopw [5, 6] (fun o i wr => ∃ k : Nat, k ≤ n ∧ i = .int .i64 k ∧ Hid (wr.ownsRow w.heap.size 49 4 o (drp (l.take k) r).length ((drp (l.take k) r).flatMap holeCells)) ∧ Below w.heap.size w wr) (fun _ i _ => n - (intOf i).toNat)
  case atStart => exact ⟨0, by omega, rfl, World.ownsRow_nil _ _ _ _, Below.refl _ _⟩
  case round =>
    obtain ⟨k, hk, rfl, hown, hb⟩ := hrel
    have hs := hb.size
    by_cases hlt : k < n
    · obtain ⟨a, ha⟩ : ∃ a, l[k]? = some a := ⟨_, List.getElem?_eq_getElem (by rw [← HL.out]; exact hlt)⟩
      obtain ⟨g1, p1, c1, he1, hcs⟩ := Reads.elem (HX.out.below hb) holeCells_len (by omega) ha
      have a0 := hcs 0 _ rfl
      have a1 := hcs 1 _ rfl
      have a2 := hcs 2 _ rfl
      have a3 := hcs 3 _ rfl
      cases he1
      have i1 : (0 : Int) ≤ (k : Int) := by omega
      have i2 : (k : Int) < (n : Int) := by omega
      simp only [Nat.add_zero] at a0
      have hkl : (drp (l.take k) r).length ≤ k := Nat.le_trans drp_len (by rw [List.length_take]; omega)
      by_cases e : a.block = r
      · have t1 : (a.block == r) = true := by rw [beq_iff_eq]; exact e
        have HD := Lib.hid (drp_take_no ha e)
        clear ha hcs e
        go_wp2
        go_roundw
        case rel => exact ⟨k + 1, by omega, by go_num, by rw [HD.out]; exact hown, hb⟩
        case measure => simp [intOf]; omega
      · have t1 : (a.block == r) = false := by rw [beq_eq_false_iff_ne]; exact e
        have HD := Lib.hid (drp_take_yes ha e)
        clear ha hcs e
        go_wp2_with (at_builtin; refine wpList_app1 rfl _ _ 42 rfl w.heap.size 49 i0 _ 4 32 Try.underlying42 hi hz0 hz1 hz2 rfl _ (drp (l.take k) r).length _ rfl (Hid.out hown) #[.int .i64 a.block, .int .i64 a.due, .int .i64 a.wait, .int .i64 a.tries] 1 rfl rfl (by intro u hu; simp at hu; rcases hu with rfl | rfl | rfl | rfl <;> rfl) (by omega) (by omega) hs ?_; rintro A2 c2 w2 hown2 hk2 - -)
        have hb2 : Below w.heap.size w w2 := hb.trans (hk2.below (fun g hg => ((Hid.out hown).lt g hg).1) hs)
        have HO : Hid (w2.ownsRow w.heap.size 49 4 (.slice A2 ((drp (l.take k) r).length + 1) c2) (drp (l.take (k + 1)) r).length ((drp (l.take (k + 1)) r).flatMap holeCells)) := by
          show World.ownsRow ..
          rw [HD.out, List.flatMap_append, List.length_append, List.flatMap_cons, List.flatMap_nil, List.append_nil, hc4]; exact hown2
        clear hown2
        go_wp2
        go_roundw
        case rel => exact ⟨k + 1, by omega, by go_num, HO, hb2⟩
        case measure => simp [intOf]; omega
    · obtain rfl : k = n := by omega
      have ho := Hid.out hown
      rw [List.take_of_length_le (by rw [← HL.out]; omega)] at ho
      obtain ⟨A', c', hv⟩ := ownsRow_slice ho
      subst hv
      have HO := Lib.hid ho
      clear ho hown
      go_wp2
      go_ret
      exact ⟨A', c', rfl, HO.out, hb⟩
end Go.Proofs.Ytkgngmmlfoiajaa
