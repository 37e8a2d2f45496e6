/- ranges: slices.Insert at pairs. -/
import Derived.Test.YthjlbbbkghigfaaPairs
import Derived.Test.YthjlbbbkghigfaaIns
import Derived.Deep.RegionHeld3
namespace Go.Proofs.Ythjlbbbkghigfaa
open Go.RowKit
set_option linter.unusedVariables false
set_option linter.unusedSimpArgs false
theorem cells1_pair (l : List (Int × Int)) (h : ∀ x : (Int × Int), ∀ v ∈ pairCells x, v.oneCell' = true) : ∀ v ∈ l.flatMap pairCells, v.oneCell' = true := by
  intro v hv
  obtain ⟨x, -, hv⟩ := List.mem_flatMap.1 hv
  exact h x v hv

set_option maxRecDepth 100000 in
set_option maxHeartbeats 400000 in
/-- slices.Insert of one, at the end. -/
theorem insert_end_pair (base vb : Nat) (v : Value) (l : List (Int × Int)) (x : (Int × Int)) (w : World) (h1 : ∀ x : (Int × Int), ∀ v ∈ pairCells x, v.oneCell' = true) (hbig : l.length ≤ 1000000000) (hbase : base ≤ w.heap.size)
    (h : w.ownsRow base 46 2 v l.length (l.flatMap pairCells)) (hv : Blk w vb (pairCells x).toArray 46) :
    Calls Try.prog 52 #[v, .int .i64 l.length, .slice (some ⟨vb, 0, none⟩) 1 1] w fun e w' => ∃ A c, e = .returned (.slice A (l.length + 1) c) ∧
      w'.ownsRow base 46 2 (.slice A (l.length + 1) c) (l.length + 1) ((put1 l l.length x).flatMap pairCells) ∧ Keep (fun k => v.ownBlock = some k) w w' ∧ (∀ g, (Value.slice A (l.length + 1) c).ownBlock = some g → v.ownBlock = some g ∨ w.heap.size ≤ g) := by
  obtain ⟨i0, hi, hz0, hz1, hz2⟩ := info_parts info_pair
  obtain ⟨A, c, rfl⟩ := ownsRow_slice h
  have hnews := hv.cellsAt' 0 (pairCells x) (fun j v hj => by simpa using hj)
  have hput : put1 l l.length x = l ++ [x] := by unfold put1; simp
  have HP : Hid ((put1 l l.length x).flatMap pairCells = l.flatMap pairCells ++ pairCells x) := by show _ = _; rw [hput, List.flatMap_append]; simp
  have HO := Lib.hid h
  have HN := Lib.hid hnews
  have H1 := Lib.hid (h1 x)
  have hcx := (show l.length ≤ c from by
    obtain ⟨A', c', he, hle, -⟩ := (Reads.of_owns h).val
    cases he; exact hle)
  have i1 : (0 : Int) ≤ (l.length : Int) := by omega
  have i2 : (l.length : Int) ≤ (c : Int) := by omega
  clear h hv hnews hput h1
  cases A with
  | none =>
    have hc0 : c = 0 ∧ l.length = 0 := by
      obtain ⟨A', c', he, -, -, h3, -⟩ := (Reads.of_owns HO.out).val
      cases he; exact ⟨(h3 rfl).2, (h3 rfl).1⟩
    have hl0 : l = [] := List.eq_nil_of_length_eq_zero hc0.2
    obtain rfl := hc0.1
    subst hl0
    clear hc0
    go_enter Try.func52, Try.ntmps52
    go_wp2_with (at_builtin; refine wpList_app rfl _ _ 44 rfl base 46 i0 (.agg #[.int .i64 0, .int .i64 0]) 2 16 Try.underlying44 hi hz0 hz1 hz2 rfl (.slice none 0 0) 0 _ rfl HO.out ⟨vb, 0, none⟩ 1 1 (pairCells x) rfl rfl HN.out H1.out (by unfold maxLen; omega) (by omega) hbase ?_; rintro A2 c2 w2 hown2 hk2 hg2 -)
    have HO2 := Lib.hid hown2
    have HK2 := Lib.hid hk2
    have HG2 := Lib.hid hg2
    clear hown2 hk2 hg2
    go_wp2
    go_ret
    exact ⟨A2, c2, rfl, by have e := HP.out; rw [List.length_nil] at e; rw [e]; exact HO2.out, HK2.out, HG2.out⟩
  | some a =>
    by_cases hcc : c = l.length
    all_goals
      go_enter Try.func52, Try.ntmps52
      go_wp2_with (at_builtin; refine wpList_app rfl _ _ 44 rfl base 46 i0 (.agg #[.int .i64 0, .int .i64 0]) 2 16 Try.underlying44 hi hz0 hz1 hz2 rfl (.slice (some a) l.length c) l.length _ rfl HO.out ⟨vb, 0, none⟩ 1 1 (pairCells x) rfl rfl HN.out H1.out (by unfold maxLen; omega) (by omega) hbase ?_; rintro A2 c2 w2 hown2 hk2 hg2 -)
      have HO2 := Lib.hid hown2
      have HK2 := Lib.hid hk2
      have HG2 := Lib.hid hg2
      clear hown2 hk2 hg2
      go_wp2
      go_ret
      exact ⟨A2, c2, rfl, by rw [HP.out]; exact HO2.out, HK2.out, HG2.out⟩

end Go.Proofs.Ythjlbbbkghigfaa
