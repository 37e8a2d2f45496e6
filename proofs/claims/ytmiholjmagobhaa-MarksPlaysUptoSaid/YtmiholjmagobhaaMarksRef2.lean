/- marks: the reference: until, refs, New. -/
import Derived.Test.YtmiholjmagobhaaMarksRef
namespace Go.Proofs.Ytmiholjmagobhaa
open Go.RowKit
set_option linter.unusedVariables false
set_option linter.unusedSimpArgs false

set_option maxRecDepth 100000 in
set_option maxHeartbeats 1000000 in
theorem refuntil_any (c : Cho) (n : Int) (w : World) :
    Calls Try.prog 23 #[.agg (stC c), .int .i64 n] w fun e w' => e = .returned (.int .i64 (if 0 ≤ n ∧ n < 8 then c.till n.toNat else 0)) ∧ Below w.heap.size w w' := by
  have HB : Hid (Below w.heap.size w (w.alloc (.cells (stC c) 42))) := (Below.refl _ w).alloc (Nat.le_refl _) _
  have HX := Lib.hid (Blk.new w (stC c) 42)
  by_cases g1 : n < 0
  · rw [if_neg (by omega)]
    go_enter Try.func23, Try.ntmps23
    go_wp2
    go_ret
    exact ⟨rfl, HB.out⟩
  · by_cases g2 : 7 < n
    · rw [if_neg (by omega)]
      go_enter Try.func23, Try.ntmps23
      go_wp2
      go_ret
      exact ⟨rfl, HB.out⟩
    · rw [if_pos (by omega)]
      obtain ⟨m, rfl⟩ : ∃ m : Nat, n = m := ⟨n.toNat, by omega⟩
      rw [Int.toNat_natCast]
      have hc := HX.out.cell (9 + m) (st_till c (by omega))
      obtain ⟨t, ht⟩ : ∃ t, t = c.till m := ⟨_, rfl⟩
      rw [← ht] at hc ⊢
      have i1 : (m : Int) < 8 := by omega
      clear ht
      go_enter Try.func23, Try.ntmps23
      go_wp2
      go_ret
      exact ⟨rfl, HB.out⟩
theorem info_u64 : (Try.prog.info? 28).map (fun i => (i.zero, i.size, i.bytes)) = some (some (.int .u64 0), 1, 8) := by kernel_rfl
set_option maxRecDepth 100000 in
set_option maxHeartbeats 1000000 in
theorem refs_any (A0 : Option Addr) (m c0 : Nat) (l : List Int) (w : World) (hr : Reads w 1 (.slice A0 m c0) m (l.map (Value.int .u64))) (hl : l.length = m) (hm : m ≤ 1048576) :
    Calls Try.prog 19 #[.slice A0 m c0] w fun e w' => ∃ A c, e = .returned (.slice A m c) ∧ w'.ownsRow w.heap.size 28 1 (.slice A m c) m (l.map (Value.int .u64)) ∧ Below w.heap.size w w' := by
  obtain ⟨i0, hi, hz0, hz1, hz2⟩ := info_parts info_u64
  have HI0 := Lib.hid hi
  have HZ0 := Lib.hid hz0
  have HZ1 := Lib.hid hz1
  have HZ2 := Lib.hid hz2
  have HR := Lib.hid hr
  have HL := Lib.hid hl
  clear hr hl hi hz0 hz1 hz2
  go_enter Try.func19, Try.ntmps19
  go_wp2_with fail
  go_loopw [3, 8] (fun o i wr => ∃ (q : Nat) (A : Option Addr) (c : Nat), q ≤ m ∧ i = .int .i64 q ∧ o = .slice A q c ∧ Hid (wr.ownsRow w.heap.size 28 1 (.slice A q c) q ((l.map (Value.int .u64)).take q)) ∧ Hid (Below w.heap.size w wr)) (fun _ i _ => m - (intOf i).toNat)
  case atStart => exact ⟨0, none, 0, by omega, rfl, rfl, ⟨rfl, .inl ⟨rfl, rfl⟩⟩, Below.refl _ _⟩
  case round =>
    obtain ⟨q, A, c, hq, rfl, rfl, HO, HB⟩ := hrel
    by_cases hlt : q < m
    · obtain ⟨u, hu⟩ : ∃ u, l[q]? = some u := ⟨_, List.getElem?_eq_getElem (by rw [HL.out]; exact hlt)⟩
      have hlu : (l.map (Value.int .u64))[q]? = some (.int .u64 u) := by rw [List.getElem?_map, hu]; rfl
      obtain ⟨g, p, d, he, y0⟩ := (HR.out.below HB.out).at q _ hlu
      cases he
      have i1 : (0 : Int) ≤ (q : Int) := by omega
      have i2 : (q : Int) < (m : Int) := by omega
      have hs0 := HB.out.size
      have HLU := Lib.hid hlu
      clear hu hlu
      go_wp2_with (at_builtin; refine wpList_app1 rfl _ _ 49 rfl w.heap.size 28 i0 (.int .u64 0) 1 8 Try.underlying49 HI0.out HZ0.out HZ1.out HZ2.out rfl _ q _ rfl HO.out #[.int .u64 u] 1 rfl rfl (by intro u hu; simp at hu; subst hu; rfl) (by omega) (by omega) hs0 ?_; rintro A2 c2 w2 hown2 hk2 - -; have HB2 := Lib.hid (bkeep HB.out hk2 (Nat.le_refl _) (fun g e => (HO.out.lt g e).1)); have HO2 := Lib.hid hown2; clear hown2 hk2)
      have HO3 : Hid (w2.ownsRow w.heap.size 28 1 (.slice A2 (q + 1) c2) (q + 1) ((l.map (Value.int .u64)).take (q + 1))) := by
        show World.ownsRow ..
        rw [List.take_add_one, HLU.out]
        exact HO2.out
      go_wp2
      go_roundw
      case rel => exact ⟨q + 1, A2, c2, by omega, by go_num, rfl, HO3, HB2⟩
      case measure => simp [intOf]; omega
    · obtain rfl : q = m := by omega
      have HO2 : Hid (wr.ownsRow w.heap.size 28 1 (.slice A q c) q (l.map (Value.int .u64))) := by
        show World.ownsRow ..
        have h := HO.out
        rw [List.take_of_length_le (by rw [List.length_map, HL.out]; exact Nat.le_refl _)] at h
        exact h
      go_wp2
      go_ret
      exact ⟨A, c, rfl, HO2.out, HB.out⟩
end Go.Proofs.Ytmiholjmagobhaa
