/- pipe: the reference: First, Without. -/
import Derived.Test.YtijmmmgmpfhgoaaPipeP
import Derived.Test.YtijmmmgmpfhgoaaAppS
import Derived.BigQuiet
namespace Go.Proofs.Ytijmmmgmpfhgoaa
open Go.RowKit
set_option linter.unusedVariables false
set_option linter.unusedSimpArgs false

def RAt (w : World) (v : Value) (X : List RM) : Prop := Reads w 2 v X.length (X.flatMap rmCells)
theorem RAt.at {w : World} {v : Value} {x : List RM} (h : RAt w v x) {k : Nat} {a : RM} (hk : x[k]? = some a) : ∃ g p c, v = .slice (some ⟨g, p, none⟩) x.length c ∧ w.cell? ⟨g, p + k * 2, none⟩ = some (.int .i64 a.due) ∧ w.cell? ⟨g, p + k * 2 + 1, none⟩ = some (.string a.txt) := by
  obtain ⟨g, p, c, he, hc⟩ := Reads.elem h rmCells_len (by omega) hk
  exact ⟨g, p, c, he, hc 0 _ rfl, hc 1 _ rfl⟩
theorem rm_one (l : List RM) : ∀ u ∈ l.flatMap rmCells, u.oneCell' = true := by
  intro u hu
  obtain ⟨x, -, hx⟩ := List.mem_flatMap.1 hu
  simp only [rmCells, List.mem_cons, List.not_mem_nil, or_false] at hx
  rcases hx with rfl | rfl <;> rfl
set_option maxRecDepth 100000 in
set_option maxHeartbeats 1000000 in
theorem first_any (v : Value) (X : List RM) (w : World) (h : RAt w v X) (hn : X.length ≤ 1000000) :
    Calls Try.prog 23 #[v] w fun e w' => e = .returned (.int .i64 (fi X X.length)) ∧ Below w.heap.size w w' := by
  obtain ⟨A, c, rfl, -⟩ := h.val
  have H := Lib.hid h
  clear h
  go_enter Try.func23, Try.ntmps23
  go_wp2
  go_loopw [3, 4] (fun at' i wr => ∃ k : Nat, i = .int .i64 k ∧ k ≤ X.length ∧ ∃ z : Int, at' = .int .i64 z ∧ Hid (z = fi X k) ∧ Hid (Below w.heap.size w wr)) (fun _ i _ => X.length - (intOf i).toNat)
  case atStart => exact ⟨0, rfl, by omega, -1, rfl, rfl, Below.refl _ _⟩
  case round =>
    obtain ⟨k, rfl, hk, z, rfl, HZ, HB⟩ := hrel
    by_cases hlt : k < X.length
    · obtain ⟨o, ho⟩ : ∃ o, X[k]? = some o := ⟨_, List.getElem?_eq_getElem hlt⟩
      have HH := Lib.hid (Reads.below H.out HB.out)
      obtain ⟨g, p, c', he, o0, o1⟩ := RAt.at HH.out ho
      cases he
      have HO := Lib.hid ho
      have i1 : (0 : Int) ≤ (k : Int) := by omega
      have i2 : (k : Int) < (X.length : Int) := by omega
      have hfr := fi_range X k hk
      rw [← HZ.out] at hfr
      have hfs : fi X (k + 1) = if z < 0 ∨ lessAt X z.toNat o = true then (k : Int) else z := by
        show (match X[k]? with | some m => _ | none => _) = _
        rw [HO.out, HZ.out]
      have HFS := Lib.hid hfs
      clear ho hfs
      by_cases hz : z < 0
      · have d1 : decide (z < 0) = true := decide_eq_true hz
        have HZ2 : Hid ((k : Int) = fi X (k + 1)) := by show _ = _; rw [HFS.out, if_pos (.inl hz)]
        go_wp2_with fail
        go_quiet (fail)
        have HB2 := Lib.hid (below_drewN HB.out nq)
        go_wp2_with fail
        go_roundw
        case rel => exact ⟨k + 1, by go_num, by omega, (k : Int), rfl, HZ2, HB2⟩
        case measure => simp [intOf]; omega
      · obtain ⟨q, rfl⟩ : ∃ q : Nat, z = q := ⟨z.toNat, by omega⟩
        obtain ⟨y, hy⟩ : ∃ y, X[q]? = some y := ⟨_, List.getElem?_eq_getElem (by omega)⟩
        obtain ⟨g2, p2, c2, he, y0, y1⟩ := RAt.at HH.out hy
        cases he
        have HYY := Lib.hid hy
        have d1 : decide ((q : Int) < 0) = false := decide_eq_false hz
        have i3 : (0 : Int) ≤ (q : Int) := by omega
        have i4 : (q : Int) < (X.length : Int) := by omega
        clear hy
        by_cases hd : o.due < y.due
        · have d2 : decide (o.due < y.due) = true := decide_eq_true hd
          have HZ2 : Hid ((k : Int) = fi X (k + 1)) := by show _ = _; rw [HFS.out, if_pos (.inr (by unfold lessAt; rw [Int.toNat_natCast, HYY.out]; exact decide_eq_true hd))]
          go_wp2_with fail
          go_quiet (fail)
          have HB2 := Lib.hid (below_drewN HB.out nq)
          go_wp2_with fail
          go_roundw
          case rel => exact ⟨k + 1, by go_num, by omega, (k : Int), rfl, HZ2, HB2⟩
          case measure => simp [intOf]; omega
        · have d2 : decide (o.due < y.due) = false := decide_eq_false hd
          have HZ2 : Hid ((q : Int) = fi X (k + 1)) := by
            show _ = _
            rw [HFS.out, if_neg]
            rintro (x | x)
            · exact hz x
            · unfold lessAt at x; rw [Int.toNat_natCast, HYY.out] at x; exact hd (of_decide_eq_true x)
          go_wp2_with fail
          go_quiet (fail)
          have HB2 := Lib.hid (below_drewN HB.out nq)
          go_wp2_with fail
          go_roundw
          case rel => exact ⟨k + 1, by go_num, by omega, (q : Int), rfl, HZ2, HB2⟩
          case measure => simp [intOf]; omega
    · obtain rfl : k = X.length := by omega
      go_wp2
      go_ret
      exact ⟨by rw [HZ.out]; rfl, HB.out⟩
theorem info_rm : (Try.prog.info? 56).map (fun i => (i.zero, i.size, i.bytes)) = some (some (.agg #[.int .i64 0, .string ByteArray.empty]), 2, 24) := by kernel_rfl
/-- the first k but number i -/
def exc (X : List RM) (i k : Nat) : List RM := if k ≤ i then X.take k else (X.take k).eraseIdx i
theorem exc_next_eq {X : List RM} {i k : Nat} (h : k = i) (hk : k < X.length) : exc X i (k + 1) = exc X i k := by
  subst h
  unfold exc
  rw [if_neg (by omega), if_pos (Nat.le_refl _)]
  obtain ⟨m, hm⟩ : ∃ m, X[k]? = some m := ⟨_, List.getElem?_eq_getElem hk⟩
  rw [List.take_add_one, hm, Option.toList_some, List.eraseIdx_append_of_length_le (by rw [List.length_take]; omega), List.length_take, Nat.min_eq_left (by omega)]
  simp
theorem exc_next_ne {X : List RM} {i k : Nat} {m : RM} (h : k ≠ i) (hm : X[k]? = some m) : exc X i (k + 1) = exc X i k ++ [m] := by
  unfold exc
  by_cases hk : k + 1 ≤ i
  · rw [if_pos hk, if_pos (by omega), List.take_add_one, hm]; rfl
  · rw [if_neg hk, if_neg (by omega)]
    exact take_erase_snoc hm (by omega)
theorem exc_len {X : List RM} {i k : Nat} (hk : k ≤ X.length) : (exc X i k).length ≤ k := by
  unfold exc
  split
  · rw [List.length_take]; omega
  · have := List.length_eraseIdx_le (X.take k) i
    rw [List.length_take] at this; omega
set_option maxRecDepth 100000 in
set_option maxHeartbeats 1000000 in
theorem without_any (v : Value) (X : List RM) (i : Nat) (w : World) (h : RAt w v X) (hn : X.length ≤ 1000000) (hi : i < X.length) :
    Calls Try.prog 26 #[v, .int .i64 (i : Int)] w fun e w' => ∃ A c, e = .returned (.slice A (X.eraseIdx i).length c) ∧ w'.ownsRow w.heap.size 56 2 (.slice A (X.eraseIdx i).length c) (X.eraseIdx i).length ((X.eraseIdx i).flatMap rmCells) ∧ Below w.heap.size w w' := by
  obtain ⟨A, c, rfl, -⟩ := h.val
  obtain ⟨i0, hi0, hz0, hz1, hz2⟩ := info_parts info_rm
  have HI0 := Lib.hid hi0
  have HZ0 := Lib.hid hz0
  have HZ1 := Lib.hid hz1
  have HZ2 := Lib.hid hz2
  have H := Lib.hid h
  clear h hi0 hz0 hz1 hz2
  go_enter Try.func26, Try.ntmps26
  go_wp2
  go_loopw [5, 6] (fun o j wr => ∃ k : Nat, j = .int .i64 k ∧ k ≤ X.length ∧ ∃ (n : Nat) (B : Option Addr) (d : Nat), o = .slice B n d ∧ Hid (n = (exc X i k).length) ∧ Hid (wr.ownsRow w.heap.size 56 2 (.slice B n d) n ((exc X i k).flatMap rmCells)) ∧ Hid (Below w.heap.size w wr)) (fun _ j _ => X.length - (intOf j).toNat)
  case atStart => exact ⟨0, rfl, by omega, 0, none, 0, rfl, rfl, ⟨rfl, .inl ⟨rfl, rfl⟩⟩, Below.refl _ _⟩
  case round =>
    obtain ⟨k, rfl, hk, n, B, d, rfl, HN, HO, HB⟩ := hrel
    by_cases hlt : k < X.length
    · obtain ⟨o, ho⟩ : ∃ o, X[k]? = some o := ⟨_, List.getElem?_eq_getElem hlt⟩
      have HH := Lib.hid (Reads.below H.out HB.out)
      obtain ⟨g, p, c', he, o0, o1⟩ := RAt.at HH.out ho
      cases he
      have HOO := Lib.hid ho
      have i1 : (0 : Int) ≤ (k : Int) := by omega
      have i2 : (k : Int) < (X.length : Int) := by omega
      have hnl : n ≤ 1000000 := by have := HN.out; have := exc_len (i := i) hk; omega
      clear ho
      by_cases he : k = i
      · have hen := exc_next_eq he hlt
        have HN2 : Hid (n = (exc X i (k + 1)).length) := by show _ = _; rw [hen]; exact HN.out
        have HO2 : Hid (wr.ownsRow w.heap.size 56 2 (.slice B n d) n ((exc X i (k + 1)).flatMap rmCells)) := by show World.ownsRow ..; rw [hen]; exact HO.out
        have t1 : ((k : Int) != (i : Int)) = false := by simp; omega
        clear hen
        go_wp2_with fail
        go_roundw
        case rel => exact ⟨k + 1, by go_num, by omega, n, B, d, rfl, HN2, HO2, HB⟩
        case measure => simp [intOf]; omega
      · have t1 : ((k : Int) != (i : Int)) = true := by simp; omega
        have HEN := Lib.hid (exc_next_ne he HOO.out)
        have hs0 := HB.out.size
        have hb0 : Below wr.heap.size wr (wr.alloc (.cells #[.int .i64 o.due, .string o.txt] 56)) := (Below.refl _ wr).alloc (Nat.le_refl _) _
        go_wp2_with (at_builtin; refine wpList_app1 rfl _ _ 33 rfl w.heap.size 56 i0 (.agg #[.int .i64 0, .string ByteArray.empty]) 2 24 Try.underlying33 HI0.out HZ0.out HZ1.out HZ2.out rfl _ n _ rfl HO.out #[.int .i64 o.due, .string o.txt] 1 rfl rfl (by intro u hu; simp at hu; rcases hu with rfl | rfl <;> rfl) (by omega) (by omega) hs0 ?_; rintro A2 c2 w2 hown2 hk2 - -; have HB2 := Lib.hid (bkeep HB.out hk2 (Nat.le_refl _) (fun g e => (HO.out.lt g e).1)); have HO2 := Lib.hid hown2; clear hown2 hk2)
        have HO3 : Hid (w2.ownsRow w.heap.size 56 2 (.slice A2 (n + 1) c2) (n + 1) ((exc X i (k + 1)).flatMap rmCells)) := by
          show World.ownsRow ..
          rw [HEN.out, List.flatMap_append]
          exact HO2.out
        have HN3 : Hid (n + 1 = (exc X i (k + 1)).length) := by show _ = _; rw [HEN.out, List.length_append, ← HN.out]; rfl
        clear hb0
        go_wp2
        go_roundw
        case rel => exact ⟨k + 1, by go_num, by omega, n + 1, A2, c2, rfl, HN3, HO3, HB2⟩
        case measure => simp [intOf]; omega
    · obtain rfl : k = X.length := by omega
      have hx : exc X i X.length = X.eraseIdx i := by unfold exc; rw [if_neg (by omega), List.take_length]
      have hn := HN.out
      have ho := HO.out
      rw [hx] at hn ho
      subst hn
      have HO2 := Lib.hid ho
      clear ho hx HO HN
      go_wp2
      go_ret
      exact ⟨B, d, rfl, HO2.out, HB.out⟩
end Go.Proofs.Ytijmmmgmpfhgoaa
