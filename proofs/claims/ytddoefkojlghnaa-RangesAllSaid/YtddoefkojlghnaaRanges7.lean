/- ranges: First, Copy. -/
import Derived.Test.YtddoefkojlghnaaRangesHas
import Derived.Test.YtddoefkojlghnaaClonePair
import Derived.Test.YtddoefkojlghnaaFam
namespace Go.Proofs.Ytddoefkojlghnaa
open Go.RowKit
set_option linter.unusedVariables false
set_option linter.unusedSimpArgs false

/-- the first number from t on -/
def firstL (t : Int) : List (Int × Int) → Option Int
  | [] => none
  | x :: r => if t < x.2 then some (max x.1 t) else firstL t r
def firstV : Option Int → Value
  | some i => .tuple #[.int .i64 i, .bool true]
  | none => .tuple #[.int .i64 0, .bool false]
theorem firstL_drop {l : List (Int × Int)} {k : Nat} {x : Int × Int} (hx : l[k]? = some x) (t : Int) : firstL t (l.drop k) = if t < x.2 then some (max x.1 t) else firstL t (l.drop (k + 1)) := by
  obtain ⟨hk, rfl⟩ := List.getElem?_eq_some_iff.1 hx
  rw [List.drop_eq_getElem_cons hk]
  rfl
/-- it is in the set, from t on, and there is none ahead of it -/
theorem firstL_some {t i : Int} : ∀ {l : List (Int × Int)} {lo : Int}, Good lo l → firstL t l = some i → cov l i = true ∧ t ≤ i ∧ ∀ j, t ≤ j → j < i → cov l j = false
  | [], lo, _, h => by simp [firstL] at h
  | x :: r, lo, g, h => by
    obtain ⟨g1, g2, g3, g4⟩ := g
    unfold firstL at h
    by_cases hx : t < x.2
    · rw [if_pos hx] at h
      obtain rfl : max x.1 t = i := by simpa using h
      refine ⟨?_, by omega, fun j h1 h2 => ?_⟩
      · rw [cov_cons, decide_eq_true (show x.1 ≤ max x.1 t by omega), decide_eq_true (show max x.1 t < x.2 by omega)]; rfl
      · cases hc : cov (x :: r) j with
        | false => rfl
        | true =>
          rw [cov_cons] at hc
          rcases Bool.or_eq_true _ _ ▸ hc with h | h
          · simp at h; omega
          · have := (g4.lo_cov h).1; omega
    · rw [if_neg hx] at h
      obtain ⟨i1, i2, i3⟩ := firstL_some g4 h
      refine ⟨by rw [cov_cons, i1, Bool.or_true], i2, fun j h1 h2 => ?_⟩
      rw [cov_cons, i3 j h1 h2, decide_eq_false (show ¬ j < x.2 by omega)]
      simp
theorem firstL_none {t : Int} : ∀ {l : List (Int × Int)} {lo : Int}, Good lo l → firstL t l = none → ∀ j, t ≤ j → cov l j = false
  | [], lo, _, _ => fun j _ => rfl
  | x :: r, lo, g, h => fun j h1 => by
    unfold firstL at h
    by_cases hx : t < x.2
    · rw [if_pos hx] at h; cases h
    · rw [if_neg hx] at h
      rw [cov_cons, firstL_none g.2.2.2 h j h1, decide_eq_false (show ¬ j < x.2 by omega)]
      simp
set_option maxRecDepth 100000 in
set_option maxHeartbeats 1000000 in
theorem first_any (b : Nat) (v : Value) (l : List (Int × Int)) (N t : Int) (w : World) (h : SetAt w b v l N) (hn : l.length ≤ 100000) :
    Calls Try.prog 18 #[.pointer (some ⟨b, 0, none⟩), .int .i64 t] w fun e w' => e = .returned (firstV (firstL t l)) ∧ Below w.heap.size w w' := by
  have H := Lib.hid h
  obtain ⟨s, k, rfl⟩ := h.slice
  obtain ⟨c0, c1⟩ := h.c
  obtain ⟨n, hnn⟩ : ∃ n, n = l.length := ⟨_, rfl⟩
  have HN := Lib.hid hnn
  rw [← hnn] at hn H c0
  clear h hnn
  go_enter Try.func18, Try.ntmps18
  go_wp2_with fail
  clear c0 c1
  go_loopw [13] (fun i wr => ∃ q : Nat, q ≤ n ∧ i = .int .i64 q ∧ Hid (firstL t l = firstL t (l.drop q)) ∧ Hid (Below w.heap.size w wr)) (fun i _ => n - (intOf i).toNat)
  case atStart => exact ⟨0, by omega, rfl, Lib.hid (by rw [List.drop_zero]), Lib.hid (Below.refl _ _)⟩
  case round =>
    obtain ⟨q, hqn, rfl, HF, HB⟩ := hrel
    by_cases hq : q < n
    · obtain ⟨x, hx⟩ : ∃ x, l[q]? = some x := ⟨_, List.getElem?_eq_getElem (by have := HN.out; omega)⟩
      obtain ⟨g, o, cc, he, y0, y1⟩ := (H.out.below HB.out).rd.pair hx
      have HFD := Lib.hid (HF.out.trans (firstL_drop hx t))
      have i1 : (0 : Int) ≤ (q : Int) := by omega
      have i2 : (q : Int) < (n : Int) := by omega
      have HE : Hid (Value.slice s n k = .slice (some ⟨g, o, none⟩) l.length cc) := he
      obtain rfl : s = some ⟨g, o, none⟩ := by cases he; rfl
      have hB2 := Blk.new wr #[.int .i64 x.1, .int .i64 x.2] 24
      have hbw := (Below.refl _ wr).alloc (Nat.le_refl wr.heap.size) (.cells #[.int .i64 x.1, .int .i64 x.2] 24)
      have HB3 := Lib.hid (bmore HB.out hbw HB.out.size)
      have x0 := hB2.cell 0 (v := .int .i64 x.1) rfl
      have x1 := hB2.cell 1 (v := .int .i64 x.2) rfl
      clear hx hB2 hbw he
      by_cases ht : t < x.2
      · have HV : Hid (firstV (firstL t l) = .tuple #[.int .i64 (max x.1 t), .bool true]) := by show _ = _; rw [HFD.out, if_pos ht]; rfl
        go_wp2
        go_ret2
        exact ⟨congrArg Ending.returned HV.out.symm, HB3.out⟩
      · have HF2 : Hid (firstL t l = firstL t (l.drop (q + 1))) := by show _ = _; rw [HFD.out, if_neg ht]
        go_wp2
        go_roundw
        case rel => exact ⟨q + 1, by omega, by go_num, HF2, HB3⟩
        case measure => simp [intOf]; omega
    · obtain rfl : q = n := by omega
      have HV : Hid (firstV (firstL t l) = .tuple #[.int .i64 0, .bool false]) := by show _ = _; rw [HF.out, List.drop_of_length_le (by rw [← HN.out]; omega)]; rfl
      go_wp2
      go_ret2
      exact ⟨congrArg Ending.returned HV.out.symm, HB.out⟩
end Go.Proofs.Ytddoefkojlghnaa
