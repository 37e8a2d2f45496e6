/- group: the methods that read; New. -/
import Derived.Test.YtlodiibmofeikaaGroup
namespace Go.Proofs.Ytlodiibmofeikaa
open Go.RowKit
set_option linter.unusedVariables false
set_option linter.unusedSimpArgs false

/-- a group in memory: its struct in block b, its receivers in block g -/
structure GrpAt (w : World) (b g c : Nat) (l : List One) (j lv : Int) : Prop where
  str : Blk w b #[.slice (some ⟨g, 0, none⟩) l.length c, .int .i64 j, .int .i64 lv] 79
  row : w.ownsRow 0 76 4 (.slice (some ⟨g, 0, none⟩) l.length c) l.length (l.flatMap oneCells)
  ne : b ≠ g
theorem GrpAt.keep {S : Nat → Prop} {w w' : World} {b g c : Nat} {l : List One} {j lv : Int} (h : GrpAt w b g c l j lv) (hk : Keep S w w') (hb : ¬ S b) (hg : ¬ S g) : GrpAt w' b g c l j lv :=
  ⟨h.str.keep hk hb, ownsRow_keep h.row hk (fun g' hg' => by cases hg'; exact hg), h.ne⟩
theorem GrpAt.below {w w' : World} {b g c : Nat} {l : List One} {j lv : Int} (h : GrpAt w b g c l j lv) (hb : Below w.heap.size w w') : GrpAt w' b g c l j lv := h.keep (Keep.none hb) id id
theorem GrpAt.drewN {w : World} {b g c : Nat} {l : List One} {j lv : Int} (h : GrpAt w b g c l j lv) (n : Nat) : GrpAt (w.drewN n) b g c l j lv := ⟨h.str, h.row, h.ne⟩
theorem GrpAt.ltg {w : World} {b g c : Nat} {l : List One} {j lv : Int} (h : GrpAt w b g c l j lv) : g < w.heap.size := by
  rcases h.row.2 with ⟨hv, _⟩ | ⟨g', cap, cur, hv, hg, hh, _⟩
  · cases hv
  · cases hv; exact (Array.getElem?_eq_some_iff.1 hh).1
theorem GrpAt.cells {w : World} {b g c : Nat} {l : List One} {j lv : Int} (h : GrpAt w b g c l j lv) : w.cell? ⟨b, 0, none⟩ = some (.slice (some ⟨g, 0, none⟩) l.length c) ∧ w.cell? ⟨b, 1, none⟩ = some (.int .i64 j) ∧ w.cell? ⟨b, 2, none⟩ = some (.int .i64 lv) :=
  ⟨h.str.cell 0 rfl, h.str.cell 1 rfl, h.str.cell 2 rfl⟩
theorem GrpAt.one {w : World} {b g c : Nat} {l : List One} {j lv : Int} (h : GrpAt w b g c l j lv) {r : Nat} {o : One} (hr : l[r]? = some o) : w.cell? ⟨g, r * 4, none⟩ = some (.int .i64 o.level) ∧ w.cell? ⟨g, r * 4 + 1, none⟩ = some (.int .i64 o.next) ∧ w.cell? ⟨g, r * 4 + 2, none⟩ = some (.int .i64 o.due) ∧ w.cell? ⟨g, r * 4 + 3, none⟩ = some (.int .i64 o.asked) := by
  have f := fun j u hu => ownsRow_cell h.row (flatMap_at oneCells_len l r o j u hr hu)
  exact ⟨f 0 _ rfl, f 1 _ rfl, f 2 _ rfl, f 3 _ rfl⟩

def One.at (o : One) (now : Int) : Int := if o.due ≤ now then o.next else o.level
set_option maxRecDepth 100000 in
theorem at_any (o : One) (now : Int) (w : World) :
    Calls Try.prog 26 #[.agg #[.int .i64 o.level, .int .i64 o.next, .int .i64 o.due, .int .i64 o.asked], .int .i64 now] w fun e w' => e = .returned (.int .i64 (o.at now)) ∧ Below w.heap.size w w' := by
  unfold One.at
  by_cases h : o.due ≤ now
  · rw [if_pos h]
    go_enter Try.func26, Try.ntmps26
    go_wp2
    go_ret
    exact ⟨rfl, (Below.refl _ _).alloc (Nat.le_refl _) _⟩
  · rw [if_neg h]
    go_enter Try.func26, Try.ntmps26
    go_wp2
    go_ret
    exact ⟨rfl, (Below.refl _ _).alloc (Nat.le_refl _) _⟩

def hasB (n : Nat) (r : Int) : Bool := decide (0 ≤ r ∧ r < n)
set_option maxRecDepth 100000 in
theorem has_any (b g c : Nat) (l : List One) (j lv r : Int) (w : World) (h : GrpAt w b g c l j lv) :
    Calls Try.prog 25 #[.pointer (some ⟨b, 0, none⟩), .int .i64 r] w fun e w' => e = .returned (.bool (hasB l.length r)) ∧ w = w' := by
  obtain ⟨c0, -, -⟩ := h.cells
  have e : hasB l.length r = if 0 ≤ r then decide (r < (l.length : Int)) else false := by
    unfold hasB
    split
    · simp [*]
    · simp [*]
  rw [e]
  by_cases h0 : 0 ≤ r
  · rw [if_pos h0]
    clear e h
    go_enter Try.func25, Try.ntmps25
    go_wp2
    go_ret
    exact ⟨rfl, rfl⟩
  · rw [if_neg h0]
    clear e h
    go_enter Try.func25, Try.ntmps25
    go_wp2
    go_ret
    exact ⟨rfl, rfl⟩

set_option maxRecDepth 100000 in
theorem count_any (b g c : Nat) (l : List One) (j lv : Int) (w : World) (h : GrpAt w b g c l j lv) :
    Calls Try.prog 45 #[.pointer (some ⟨b, 0, none⟩)] w fun e w' => e = .returned (.int .i64 l.length) ∧ w = w' := by
  obtain ⟨c0, -, -⟩ := h.cells
  clear h
  go_enter Try.func45, Try.ntmps45
  go_wp2
  go_ret
  exact ⟨rfl, rfl⟩

set_option maxRecDepth 100000 in
theorem level_yes (b g c : Nat) (l : List One) (j lv : Int) (r : Nat) (o : One) (now : Int) (w : World) (h : GrpAt w b g c l j lv) (hr : l[r]? = some o) :
    Calls Try.prog 15 #[.pointer (some ⟨b, 0, none⟩), .int .i64 r, .int .i64 now] w fun e w' => e = .returned (.tuple #[.int .i64 (o.at now), .int .i64 0]) ∧ Below w.heap.size w w' := by
  obtain ⟨c0, -, -⟩ := h.cells
  obtain ⟨o0, o1, o2, o3⟩ := h.one hr
  have hlt : r < l.length := (List.getElem?_eq_some_iff.1 hr).1
  have hh := has_any b g c l j lv r w h
  rw [show hasB l.length r = true from decide_eq_true ⟨by omega, by omega⟩] at hh
  have HH := Lib.hid hh
  have i1 : (0 : Int) ≤ (r : Int) := by omega
  have i2 : (r : Int) < (l.length : Int) := by omega
  clear h hh hr
  go_enter Try.func15, Try.ntmps15
  go_wp2_with fail
  refine HH.out.mono ?_
  rintro e w' ⟨rfl, rfl⟩
  go_wp2_with fail
  refine (at_any o now _).mono ?_
  rintro e w1 ⟨rfl, hb1⟩
  go_wp2
  go_ret2
  exact ⟨rfl, hb1⟩
set_option maxRecDepth 100000 in
theorem level_no (b g c : Nat) (l : List One) (j lv r now : Int) (w : World) (h : GrpAt w b g c l j lv) (hr : hasB l.length r = false) :
    Calls Try.prog 15 #[.pointer (some ⟨b, 0, none⟩), .int .i64 r, .int .i64 now] w fun e w' => e = .returned (.tuple #[.int .i64 0, .int .i64 11]) ∧ w = w' := by
  have hh := has_any b g c l j lv r w h
  rw [hr] at hh
  have HH := Lib.hid hh
  clear h hh hr
  go_enter Try.func15, Try.ntmps15
  go_wp2_with fail
  refine HH.out.mono ?_
  rintro e w' ⟨rfl, rfl⟩
  go_wp2
  go_ret2
  exact ⟨rfl, rfl⟩

def dlyB (n : Int) : Bool := decide (0 ≤ n ∧ n ≤ 64)
set_option maxRecDepth 100000 in
theorem delay_any (n : Int) (w : World) :
    Calls Try.prog 40 #[.int .i64 n] w fun e w' => e = .returned (.bool (dlyB n)) ∧ w = w' := by
  have e : dlyB n = if 0 ≤ n then decide (n ≤ 64) else false := by
    unfold dlyB
    split <;> simp [*]
  rw [e]
  by_cases h0 : 0 ≤ n
  · rw [if_pos h0]
    clear e
    go_enter Try.func40, Try.ntmps40
    go_wp2
    go_ret
    exact ⟨rfl, rfl⟩
  · rw [if_neg h0]
    clear e
    go_enter Try.func40, Try.ntmps40
    go_wp2
    go_ret
    exact ⟨rfl, rfl⟩

/-- may there be such a group? -/
def GrpOk (n j lv : Int) : Prop := 1 ≤ n ∧ n ≤ 64 ∧ 0 ≤ j ∧ j ≤ 64 ∧ 0 ≤ lv ∧ lv ≤ 64
set_option maxRecDepth 100000 in
set_option maxHeartbeats 400000 in
theorem new_yes (n : Nat) (j lv : Int) (w : World) (h : GrpOk n j lv) :
    Calls Try.prog 22 #[.int .i64 n, .int .i64 j, .int .i64 lv] w fun e w' => ∃ b g, e = .returned (.tuple #[.pointer (some ⟨b, 0, none⟩), .int .i64 0]) ∧ GrpAt w' b g n (List.replicate n one0) j lv ∧ w.heap.size ≤ b ∧ w.heap.size ≤ g ∧ Below w.heap.size w w' := by
  obtain ⟨h1, h2, h3, h4, h5, h6⟩ := h
  have hj := delay_any j w
  rw [show dlyB j = true from decide_eq_true ⟨h3, h4⟩] at hj
  have hl := delay_any lv w
  rw [show dlyB lv = true from decide_eq_true ⟨h5, h6⟩] at hl
  have HJ := Lib.hid hj
  have HL := Lib.hid hl
  clear hj hl
  go_enter Try.func22, Try.ntmps22
  go_wp2_with (first | (go_at_call 40; (with_reducible refine HJ.out.mono ?_); rintro e w' ⟨rfl, rfl⟩) | (go_at_call 40; (with_reducible refine HL.out.mono ?_); rintro e w' ⟨rfl, rfl⟩))
  refine (repeat_any w.heap.size n _ (Blk.new w _ _) (by omega) (by omega)).mono ?_
  rintro e w1 ⟨g, rfl, hB, hg, hb1⟩
  go_wp2
  go_ret2
  have hq : Below w.heap.size w w1 := ((Below.refl _ w).alloc (Nat.le_refl _) _).trans (hb1.mono (by simp))
  have hlt := hB.lt
  refine ⟨w1.heap.size, g, rfl, ⟨?_, ?_, by omega⟩, hq.size, by simp at hg; omega, hq.alloc hq.size _⟩
  · rw [List.length_replicate]; exact Blk.new w1 _ _
  · rw [List.length_replicate]
    refine ⟨by rw [flatMap_length oneCells_len, List.length_replicate], .inr ⟨g, n, _, rfl, Nat.zero_le _, hB.alloc _, Nat.le_refl _, by unfold maxLen; omega, by rw [List.size_toArray, repc_len], ?_⟩⟩
    show (repc n).take (n * 4) = repc n
    exact List.take_of_length_le (by rw [repc_len]; omega)
set_option maxRecDepth 100000 in
theorem new_no (n j lv : Int) (w : World) (h : ¬ GrpOk n j lv) :
    Calls Try.prog 22 #[.int .i64 n, .int .i64 j, .int .i64 lv] w fun e w' => e = .returned (.tuple #[.pointer none, .int .i64 11]) ∧ w = w' := by
  have hj := delay_any j w
  have hl := delay_any lv w
  unfold GrpOk at h
  rcases (by omega : n < 1 ∨ (1 ≤ n ∧ 64 < n) ∨ (1 ≤ n ∧ n ≤ 64 ∧ ¬ (0 ≤ j ∧ j ≤ 64)) ∨ (1 ≤ n ∧ n ≤ 64 ∧ (0 ≤ j ∧ j ≤ 64) ∧ ¬ (0 ≤ lv ∧ lv ≤ 64))) with g | ⟨g, g'⟩ | ⟨g, g', g2⟩ | ⟨g, g', g2, g3⟩
  · clear hj hl h
    go_enter Try.func22, Try.ntmps22
    go_wp2
    go_ret2
    exact ⟨rfl, rfl⟩
  · clear hj hl h
    go_enter Try.func22, Try.ntmps22
    go_wp2
    go_ret2
    exact ⟨rfl, rfl⟩
  · rw [show dlyB j = false from decide_eq_false g2] at hj
    have HJ := Lib.hid hj
    clear hj hl h g2
    go_enter Try.func22, Try.ntmps22
    go_wp2_with ((go_at_call 40; (with_reducible refine HJ.out.mono ?_); rintro e w' ⟨rfl, rfl⟩))
    go_ret2
    exact ⟨rfl, rfl⟩
  · rw [show dlyB j = true from decide_eq_true g2] at hj
    rw [show dlyB lv = false from decide_eq_false g3] at hl
    have HJ := Lib.hid hj
    have HL := Lib.hid hl
    clear hj hl h g2 g3
    go_enter Try.func22, Try.ntmps22
    go_wp2_with (first | (go_at_call 40; (with_reducible refine HJ.out.mono ?_); rintro e w' ⟨rfl, rfl⟩) | (go_at_call 40; (with_reducible refine HL.out.mono ?_); rintro e w' ⟨rfl, rfl⟩))
    go_ret2
    exact ⟨rfl, rfl⟩
end Go.Proofs.Ytlodiibmofeikaa
