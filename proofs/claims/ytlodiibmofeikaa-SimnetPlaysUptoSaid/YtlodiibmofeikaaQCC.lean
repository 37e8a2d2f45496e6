/- group: bits.Mul at 1; slices.Repeat of one; New. -/
import Derived.Test.YtlodiibmofeikaaQAA
import Derived.Laws.MakeOwn
import Derived.Deep.RegionHeld3
import Derived.WalkSpells
import Derived.Lib.SliceRun
import Derived.Test.YtlodiibmofeikaaQBB
namespace Go.Proofs.Ytlodiibmofeikaa
section
open Go.RowKit
set_option linter.unusedVariables false
set_option linter.unusedSimpArgs false

/-- a receiver -/
structure One where
  level : Int
  next : Int
  due : Int
  asked : Int
def oneCells (o : One) : List Value := [.int .i64 o.level, .int .i64 o.next, .int .i64 o.due, .int .i64 o.asked]
theorem oneCells_len (o : One) : (oneCells o).length = 4 := rfl
def one0 : One := ⟨-1, -1, 0, 0⟩
def oneZ : One := ⟨0, 0, 0, 0⟩
theorem info_one : (Try.prog.info? 76).map (fun i => (i.zero, i.size, i.bytes)) = some (some (.agg #[.int .i64 0, .int .i64 0, .int .i64 0, .int .i64 0]), 4, 32) := by kernel_rfl
theorem size_one : (Try.prog.info? 76).map (·.size) = some 4 := by kernel_rfl

theorem Blk.cellsAt {w : World} {g : Nat} {cs : Array Value} {T : TypeId} (h : Blk w g cs T) (o : Nat) (news : List Value) (hn : ∀ j v, news[j]? = some v → cs[o + j]? = some v) :
    ∀ j v, news[j]? = some v → w.cell? ((⟨g, o, none⟩ : Addr).add j) = some v := fun j v hj => by
  have e : (⟨g, o, none⟩ : Addr).add j = ⟨g, o + j, none⟩ := by unfold Addr.add; split <;> simp_all
  rw [e]
  exact h.cell (o + j) (hn j v hj)

set_option maxRecDepth 100000 in
theorem mul64_one (n : Nat) (w : World) (h : n ≤ 64) :
    Calls Try.prog 60 #[.int .u64 1, .int .u64 n] w fun e w' => e = .returned (.tuple #[.int .u64 0, .int .u64 n]) ∧ w = w' := by
  have e1 : bits .and .u64 (n : Int) 4294967295 = (n : Int) := by
    have : ∀ m : Fin 65, bits .and .u64 ((m : Nat) : Int) 4294967295 = ((m : Nat) : Int) := by decide
    exact this ⟨n, by omega⟩
  have e2 : (n : Int) / 4294967296 = 0 := by omega
  have e3 : bits .and .u64 1 4294967295 = 1 := by decide
  have e4 : bits .and .u64 0 4294967295 = 0 := by decide
  have h0 : (0 : Int) ≤ (n : Int) := by omega
  go_enter Try.func60, Try.ntmps60
  go_wp2
  go_ret2
  exact ⟨rfl, rfl⟩
set_option maxRecDepth 100000 in
theorem mul_one (n : Nat) (w : World) (h : n ≤ 64) :
    Calls Try.prog 55 #[.int .u64 1, .int .u64 n] w fun e w' => e = .returned (.tuple #[.int .u64 0, .int .u64 n]) ∧ w = w' := by
  go_enter Try.func55, Try.ntmps55
  go_wp2_with fail
  refine (mul64_one n _ h).mono ?_
  rintro e w' ⟨rfl, rfl⟩
  go_wp2
  go_ret2
  exact ⟨rfl, rfl⟩

def repc (k : Nat) : List Value := (List.replicate k one0).flatMap oneCells
def zerc (k : Nat) : List Value := (List.replicate k oneZ).flatMap oneCells
theorem repc_len (k : Nat) : (repc k).length = k * 4 := by unfold repc; rw [flatMap_length oneCells_len, List.length_replicate]
theorem zerc_len (k : Nat) : (zerc k).length = k * 4 := by unfold zerc; rw [flatMap_length oneCells_len, List.length_replicate]
theorem repc_add (k m : Nat) : repc (k + m) = repc k ++ repc m := by unfold repc; rw [← List.replicate_append_replicate, List.flatMap_append]
theorem zerc_add (k m : Nat) : zerc (k + m) = zerc k ++ zerc m := by unfold zerc; rw [← List.replicate_append_replicate, List.flatMap_append]
theorem repc_splice (k m r : Nat) : splice (repc k ++ zerc (m + r)) (k * 4) (repc m) = repc (k + m) ++ zerc r := by
  unfold splice
  have h : (repc k ++ (zerc m ++ zerc r)).drop (k * 4 + m * 4) = zerc r := by rw [← List.append_assoc]; exact List.drop_left' (by simp [repc_len, zerc_len])
  rw [List.take_left' (repc_len k), zerc_add, repc_len, h, repc_add, List.append_assoc]
theorem repc_one (k : Nat) : ∀ v ∈ repc k, v.oneCell' = true := by
  intro v hv
  simp only [repc, List.mem_flatMap, List.mem_replicate] at hv
  obtain ⟨o, -, hv⟩ := hv
  simp [oneCells] at hv
  rcases hv with rfl | rfl | rfl | rfl <;> rfl
theorem made_zerc (n : Nat) : madeCells (Value.agg #[.int .i64 0, .int .i64 0, .int .i64 0, .int .i64 0]).cells (n * 4) = (zerc n).toArray := by
  apply Array.ext
  · rw [size_madeCells, List.size_toArray, zerc_len]
  · intro i h1 h2
    rw [size_madeCells] at h1
    have e : (madeCells (Value.agg #[.int .i64 0, .int .i64 0, .int .i64 0, .int .i64 0]).cells (n * 4))[i] = Value.int .i64 0 := by
      simp only [madeCells, Array.getElem_map, Array.getElem_range, Value.cells]
      have : i % 4 = 0 ∨ i % 4 = 1 ∨ i % 4 = 2 ∨ i % 4 = 3 := by omega
      show #[Value.int .i64 0, .int .i64 0, .int .i64 0, .int .i64 0][i % 4]! = _
      rcases this with h | h | h | h <;> rw [h] <;> rfl
    rw [e]
    have : ∀ v ∈ zerc n, v = Value.int .i64 0 := by
      intro v hv
      simp only [zerc, List.mem_flatMap, List.mem_replicate] at hv
      obtain ⟨o, ⟨-, rfl⟩, hv⟩ := hv
      simpa [oneCells, oneZ] using hv
    exact (this _ (by simp)).symm
set_option maxRecDepth 100000 in
set_option maxHeartbeats 400000 in
theorem repeat_any (g0 n : Nat) (w : World) (h : Blk w g0 (repc 1).toArray 76) (h1 : 1 ≤ n) (h2 : n ≤ 64) :
    Calls Try.prog 41 #[.slice (some ⟨g0, 0, none⟩) 1 1, .int .i64 n] w fun e w' => ∃ g, e = .returned (.slice (some ⟨g, 0, none⟩) n n) ∧ Blk w' g (repc n).toArray 76 ∧ w.heap.size ≤ g ∧ Below w.heap.size w w' := by
  obtain ⟨i0, hi, hz0, hz1, hz2⟩ := info_parts info_one
  have hmk : (Instr.makeSlice 77 (.int .i64 (n : Int)) (.int .i64 (n : Int))).run Try.prog w = .ok (.slice (some ⟨w.heap.size, 0, none⟩) n n) (w.alloc (.cells (zerc n).toArray 76)) := by
    have h := run_make (P := Try.prog) w 77 76 i0 _ Try.underlying77 hi hz0 .i64 .i64 (n : Int) (n : Int) (by omega) (by omega) (by rw [hz2]; omega) (by omega)
    rw [hz1, Int.toNat_natCast, made_zerc] at h
    exact h
  have HB := Lib.hid (Blk.new w (zerc n).toArray 76)
  have hg0 := h.lt
  have HX := Lib.hid (h.alloc (.cells (zerc n).toArray 76))
  have H0 := Lib.hid h
  have j0 : (0 : Int) ≤ (n : Int) := by omega
  have j1 : ¬ ((n : Int) < 0) := by omega
  clear h
  go_enter Try.func41, Try.ntmps41
  go_wp2_with fail
  refine (mul_one n _ h2).mono ?_
  rintro e w' ⟨rfl, rfl⟩
  have HC1 : Hid (Nat.min 1 n = 1) := Nat.min_eq_left h1
  have C2 := HX.out.cellsAt 0 (repc 1) (fun j v h => by simpa using h)
  have C3 : 0 + (repc 1).length ≤ (zerc n).toArray.size := by rw [repc_len, List.size_toArray, zerc_len]; omega
  have HC2 := Lib.hid C2
  have HC3 := Lib.hid C3
  have HB1 : Hid (Below w.heap.size w (w.alloc (.cells (zerc n).toArray 76))) := (Below.refl _ w).alloc (Nat.le_refl _) _
  clear C2 C3
  go_wp2_with (with_reducible refine wpList_copyN rfl (.tmp 31) (.tmp 32) _ _ rfl 76 4 Try.underlying77 size_one w.heap.size 0 n n 1 1 ⟨g0, 0, none⟩ rfl rfl (zerc n).toArray 76 HB.out 1 HC1.out (repc 1) (repc_len 1) HC2.out HC3.out (repc_one 1) ?_)
  intro w1 hB1 hk1
  have HB2 : Hid (Blk w1 w.heap.size (repc 1 ++ zerc (n - 1)).toArray 76) := by
    have e := repc_splice 0 1 (n - 1)
    rw [show 1 + (n - 1) = n by omega] at e
    have h : Blk w1 w.heap.size (splice (repc 0 ++ zerc n) (0 * 4) (repc 1)).toArray 76 := by rw [Nat.zero_mul]; exact hB1.out
    rw [e] at h
    exact h
  have HQ1 : Hid (Below w.heap.size w w1) := bkeep HB1.out hk1 (Nat.le_refl _) (fun k hk => by subst hk; exact Nat.le_refl _)
  clear hB1 hk1
  go_wp2
  go_loopw [8] (fun i wr => ∃ k : Nat, 1 ≤ k ∧ k ≤ n ∧ i = .int .i64 k ∧ Hid (Blk wr w.heap.size (repc k ++ zerc (n - k)).toArray 76) ∧ Hid (Below w.heap.size w wr)) (fun i _ => n - (intOf i).toNat)
  case atStart => exact ⟨1, by omega, h1, rfl, HB2, HQ1⟩
  case round =>
    obtain ⟨k, hk1, hk2, rfl, HBk, HQk⟩ := hrel
    by_cases hlt : k < n
    · have i1 : (0 : Int) ≤ (k : Int) := by omega
      have i2 : (k : Int) ≤ (n : Int) := by omega
      have i3 : (k : Int) < (n : Int) := by omega
      have i4 : ¬ (n = k) := by omega
      obtain ⟨m, hm⟩ : ∃ m, m = Nat.min k (n - k) := ⟨_, rfl⟩
      have hle : m ≤ n - k := by rw [hm]; exact Nat.min_le_right _ _
      obtain ⟨r, hr⟩ : ∃ r, n - k = m + r := ⟨n - k - m, by omega⟩
      have hm1 : 1 ≤ m := by rw [hm]; exact Nat.le_min.2 ⟨hk1, by omega⟩
      have hmk : m ≤ k := by rw [hm]; exact Nat.min_le_left _ _
      have hC2 := (HBk.out.drewN 1).cellsAt 0 (repc m) (fun j v h => by
        have hj : j < m * 4 := by rw [← repc_len]; exact (List.getElem?_eq_some_iff.1 h).1
        rw [Nat.zero_add, List.getElem?_toArray, List.getElem?_append_left (by rw [repc_len]; omega), show k = m + (k - m) by omega, repc_add, List.getElem?_append_left (by rw [repc_len]; omega)]
        exact h)
      have HC2 := Lib.hid hC2
      have HM := Lib.hid hm.symm
      have HR := Lib.hid hr
      have HC3 : Hid (k * 4 + (repc m).length ≤ (repc k ++ zerc (n - k)).toArray.size) := by
        show k * 4 + (repc m).length ≤ (repc k ++ zerc (n - k)).toArray.size
        rw [repc_len, List.size_toArray, List.length_append, repc_len, zerc_len, hr]; omega
      have hkm : k + m ≤ n := by omega
      have HKD : Hid (Keep (fun k => k = w.heap.size) wr wr.drew) := (Keep.refl _ _).drew
      clear hm hr hC2 hmk hle
      go_wp2_with fail
      have wk : IntKind.i64.wrap ((k : Int) + (m : Int)) = ((k + m : Nat) : Int) := by rw [IntWalk.i64_in _ (by omega)]; omega
      go_region_held3 (fun _ => True) (trivial)
        (first
          | (refine step_copyN rfl (.tmp 41) (.tmp 44) _ _ rfl 76 4 Try.underlying77 size_one w.heap.size (k * 4) (n - k) (n - k) k n ⟨w.heap.size, 0, none⟩ rfl rfl (repc k ++ zerc (n - k)).toArray 76 (HBk.out.drewN 1) m HM.out (repc m) (repc_len m) HC2.out HC3.out (repc_one m) ?_; intro w2 hB2 hk2))
      clear wk
      have HB3 : Hid (Blk w2 w.heap.size (repc (k + m) ++ zerc (n - (k + m))).toArray 76) := by
        have h := hB2.out
        rw [show (repc k ++ zerc (n - k)).toArray.toList = repc k ++ zerc (n - k) from rfl, HR.out, repc_splice] at h
        rw [show n - (k + m) = r by have := HR.out; omega]
        exact h
      have HQ3 : Hid (Below w.heap.size w w2) := bkeep HQk.out (HKD.out.trans hk2 (fun _ _ h => h)) (Nat.le_refl _) (fun k hk => by subst hk; exact Nat.le_refl _)
      clear hB2 hk2
      go_wp2
      go_roundw
      case rel => exact ⟨k + m, by omega, hkm, rfl, HB3, HQ3⟩
      case measure => simp [intOf]; omega
    · obtain rfl : k = n := by omega
      go_wp2
      go_ret
      refine ⟨w.heap.size, rfl, ?_, Nat.le_refl _, HQk.out⟩
      have h := HBk.out
      rw [Nat.sub_self, show zerc 0 = [] from rfl, List.append_nil] at h
      exact h
end
section
open Go.RowKit
set_option linter.unusedVariables false
set_option linter.unusedSimpArgs false

/-- a group in memory: its struct in block b, its receivers in block g -/
structure GrpAt (w : World) (b g c : Nat) (l : List One) (j lv : Int) : Prop where
  str : Blk w b #[.slice (some ⟨g, 0, none⟩) l.length c, .int .i64 j, .int .i64 lv] 79
  row : w.ownsRow 0 76 4 (.slice (some ⟨g, 0, none⟩) l.length c) l.length (l.flatMap oneCells)
  ne : b ≠ g
theorem GrpAt.keep {S : Nat → Prop} {w w' : World} {b g c : Nat} {l : List One} {j lv : Int} (h : GrpAt w b g c l j lv) (hk : Keep S w w') (hb : ¬ S b) (hg : ¬ S g) : GrpAt w' b g c l j lv :=
  ⟨h.str.keep hk hb, ownsRow_keep h.row hk (fun g' hg' => by cases hg'; exact hg), h.ne⟩
theorem GrpAt.below {w w' : World} {b g c : Nat} {l : List One} {j lv : Int} (h : GrpAt w b g c l j lv) (hb : Below w.heap.size w w') : GrpAt w' b g c l j lv := h.keep (Keep.none hb) id id
theorem GrpAt.drewN {w : World} {b g c : Nat} {l : List One} {j lv : Int} (h : GrpAt w b g c l j lv) (n : Nat) : GrpAt (w.drewN n) b g c l j lv := ⟨h.str, h.row, h.ne⟩
theorem GrpAt.ltg {w : World} {b g c : Nat} {l : List One} {j lv : Int} (h : GrpAt w b g c l j lv) : g < w.heap.size := by
  rcases h.row.2 with ⟨hv, _⟩ | ⟨g', cap, cur, hv, hg, hh, _⟩
  · cases hv
  · cases hv; exact (Array.getElem?_eq_some_iff.1 hh).1
theorem GrpAt.cells {w : World} {b g c : Nat} {l : List One} {j lv : Int} (h : GrpAt w b g c l j lv) : w.cell? ⟨b, 0, none⟩ = some (.slice (some ⟨g, 0, none⟩) l.length c) ∧ w.cell? ⟨b, 1, none⟩ = some (.int .i64 j) ∧ w.cell? ⟨b, 2, none⟩ = some (.int .i64 lv) :=
  ⟨h.str.cell 0 rfl, h.str.cell 1 rfl, h.str.cell 2 rfl⟩
theorem GrpAt.one {w : World} {b g c : Nat} {l : List One} {j lv : Int} (h : GrpAt w b g c l j lv) {r : Nat} {o : One} (hr : l[r]? = some o) : w.cell? ⟨g, r * 4, none⟩ = some (.int .i64 o.level) ∧ w.cell? ⟨g, r * 4 + 1, none⟩ = some (.int .i64 o.next) ∧ w.cell? ⟨g, r * 4 + 2, none⟩ = some (.int .i64 o.due) ∧ w.cell? ⟨g, r * 4 + 3, none⟩ = some (.int .i64 o.asked) := by
  have f := fun j u hu => ownsRow_cell h.row (flatMap_at oneCells_len l r o j u hr hu)
  exact ⟨f 0 _ rfl, f 1 _ rfl, f 2 _ rfl, f 3 _ rfl⟩

def One.at (o : One) (now : Int) : Int := if o.due ≤ now then o.next else o.level
set_option maxRecDepth 100000 in
theorem at_any (o : One) (now : Int) (w : World) :
    Calls Try.prog 26 #[.agg #[.int .i64 o.level, .int .i64 o.next, .int .i64 o.due, .int .i64 o.asked], .int .i64 now] w fun e w' => e = .returned (.int .i64 (o.at now)) ∧ Below w.heap.size w w' := by
  unfold One.at
  by_cases h : o.due ≤ now
  · rw [if_pos h]
    go_enter Try.func26, Try.ntmps26
    go_wp2
    go_ret
    exact ⟨rfl, (Below.refl _ _).alloc (Nat.le_refl _) _⟩
  · rw [if_neg h]
    go_enter Try.func26, Try.ntmps26
    go_wp2
    go_ret
    exact ⟨rfl, (Below.refl _ _).alloc (Nat.le_refl _) _⟩

def hasB (n : Nat) (r : Int) : Bool := decide (0 ≤ r ∧ r < n)
set_option maxRecDepth 100000 in
theorem has_any (b g c : Nat) (l : List One) (j lv r : Int) (w : World) (h : GrpAt w b g c l j lv) :
    Calls Try.prog 25 #[.pointer (some ⟨b, 0, none⟩), .int .i64 r] w fun e w' => e = .returned (.bool (hasB l.length r)) ∧ w = w' := by
  obtain ⟨c0, -, -⟩ := h.cells
  have e : hasB l.length r = if 0 ≤ r then decide (r < (l.length : Int)) else false := by
    unfold hasB
    split
    · simp [*]
    · simp [*]
  rw [e]
  by_cases h0 : 0 ≤ r
  · rw [if_pos h0]
    clear e h
    go_enter Try.func25, Try.ntmps25
    go_wp2
    go_ret
    exact ⟨rfl, rfl⟩
  · rw [if_neg h0]
    clear e h
    go_enter Try.func25, Try.ntmps25
    go_wp2
    go_ret
    exact ⟨rfl, rfl⟩

set_option maxRecDepth 100000 in
theorem count_any (b g c : Nat) (l : List One) (j lv : Int) (w : World) (h : GrpAt w b g c l j lv) :
    Calls Try.prog 45 #[.pointer (some ⟨b, 0, none⟩)] w fun e w' => e = .returned (.int .i64 l.length) ∧ w = w' := by
  obtain ⟨c0, -, -⟩ := h.cells
  clear h
  go_enter Try.func45, Try.ntmps45
  go_wp2
  go_ret
  exact ⟨rfl, rfl⟩

set_option maxRecDepth 100000 in
theorem level_yes (b g c : Nat) (l : List One) (j lv : Int) (r : Nat) (o : One) (now : Int) (w : World) (h : GrpAt w b g c l j lv) (hr : l[r]? = some o) :
    Calls Try.prog 15 #[.pointer (some ⟨b, 0, none⟩), .int .i64 r, .int .i64 now] w fun e w' => e = .returned (.tuple #[.int .i64 (o.at now), .int .i64 0]) ∧ Below w.heap.size w w' := by
  obtain ⟨c0, -, -⟩ := h.cells
  obtain ⟨o0, o1, o2, o3⟩ := h.one hr
  have hlt : r < l.length := (List.getElem?_eq_some_iff.1 hr).1
  have hh := has_any b g c l j lv r w h
  rw [show hasB l.length r = true from decide_eq_true ⟨by omega, by omega⟩] at hh
  have HH := Lib.hid hh
  have i1 : (0 : Int) ≤ (r : Int) := by omega
  have i2 : (r : Int) < (l.length : Int) := by omega
  clear h hh hr
  go_enter Try.func15, Try.ntmps15
  go_wp2_with fail
  refine HH.out.mono ?_
  rintro e w' ⟨rfl, rfl⟩
  go_wp2_with fail
  refine (at_any o now _).mono ?_
  rintro e w1 ⟨rfl, hb1⟩
  go_wp2
  go_ret2
  exact ⟨rfl, hb1⟩
set_option maxRecDepth 100000 in
theorem level_no (b g c : Nat) (l : List One) (j lv r now : Int) (w : World) (h : GrpAt w b g c l j lv) (hr : hasB l.length r = false) :
    Calls Try.prog 15 #[.pointer (some ⟨b, 0, none⟩), .int .i64 r, .int .i64 now] w fun e w' => e = .returned (.tuple #[.int .i64 0, .int .i64 11]) ∧ w = w' := by
  have hh := has_any b g c l j lv r w h
  rw [hr] at hh
  have HH := Lib.hid hh
  clear h hh hr
  go_enter Try.func15, Try.ntmps15
  go_wp2_with fail
  refine HH.out.mono ?_
  rintro e w' ⟨rfl, rfl⟩
  go_wp2
  go_ret2
  exact ⟨rfl, rfl⟩

def dlyB (n : Int) : Bool := decide (0 ≤ n ∧ n ≤ 64)
set_option maxRecDepth 100000 in
theorem delay_any (n : Int) (w : World) :
    Calls Try.prog 40 #[.int .i64 n] w fun e w' => e = .returned (.bool (dlyB n)) ∧ w = w' := by
  have e : dlyB n = if 0 ≤ n then decide (n ≤ 64) else false := by
    unfold dlyB
    split <;> simp [*]
  rw [e]
  by_cases h0 : 0 ≤ n
  · rw [if_pos h0]
    clear e
    go_enter Try.func40, Try.ntmps40
    go_wp2
    go_ret
    exact ⟨rfl, rfl⟩
  · rw [if_neg h0]
    clear e
    go_enter Try.func40, Try.ntmps40
    go_wp2
    go_ret
    exact ⟨rfl, rfl⟩

/-- may there be such a group? -/
def GrpOk (n j lv : Int) : Prop := 1 ≤ n ∧ n ≤ 64 ∧ 0 ≤ j ∧ j ≤ 64 ∧ 0 ≤ lv ∧ lv ≤ 64
set_option maxRecDepth 100000 in
set_option maxHeartbeats 400000 in
theorem new_yes (n : Nat) (j lv : Int) (w : World) (h : GrpOk n j lv) :
    Calls Try.prog 22 #[.int .i64 n, .int .i64 j, .int .i64 lv] w fun e w' => ∃ b g, e = .returned (.tuple #[.pointer (some ⟨b, 0, none⟩), .int .i64 0]) ∧ GrpAt w' b g n (List.replicate n one0) j lv ∧ w.heap.size ≤ b ∧ w.heap.size ≤ g ∧ Below w.heap.size w w' := by
  obtain ⟨h1, h2, h3, h4, h5, h6⟩ := h
  have hj := delay_any j w
  rw [show dlyB j = true from decide_eq_true ⟨h3, h4⟩] at hj
  have hl := delay_any lv w
  rw [show dlyB lv = true from decide_eq_true ⟨h5, h6⟩] at hl
  have HJ := Lib.hid hj
  have HL := Lib.hid hl
  clear hj hl
  go_enter Try.func22, Try.ntmps22
  go_wp2_with (first | (go_at_call 40; (with_reducible refine HJ.out.mono ?_); rintro e w' ⟨rfl, rfl⟩) | (go_at_call 40; (with_reducible refine HL.out.mono ?_); rintro e w' ⟨rfl, rfl⟩))
  refine (repeat_any w.heap.size n _ (Blk.new w _ _) (by omega) (by omega)).mono ?_
  rintro e w1 ⟨g, rfl, hB, hg, hb1⟩
  go_wp2
  go_ret2
  have hq : Below w.heap.size w w1 := ((Below.refl _ w).alloc (Nat.le_refl _) _).trans (hb1.mono (by simp))
  have hlt := hB.lt
  refine ⟨w1.heap.size, g, rfl, ⟨?_, ?_, by omega⟩, hq.size, by simp at hg; omega, hq.alloc hq.size _⟩
  · rw [List.length_replicate]; exact Blk.new w1 _ _
  · rw [List.length_replicate]
    refine ⟨by rw [flatMap_length oneCells_len, List.length_replicate], .inr ⟨g, n, _, rfl, Nat.zero_le _, hB.alloc _, Nat.le_refl _, by unfold maxLen; omega, by rw [List.size_toArray, repc_len], ?_⟩⟩
    show (repc n).take (n * 4) = repc n
    exact List.take_of_length_le (by rw [repc_len]; omega)
set_option maxRecDepth 100000 in
theorem new_no (n j lv : Int) (w : World) (h : ¬ GrpOk n j lv) :
    Calls Try.prog 22 #[.int .i64 n, .int .i64 j, .int .i64 lv] w fun e w' => e = .returned (.tuple #[.pointer none, .int .i64 11]) ∧ w = w' := by
  have hj := delay_any j w
  have hl := delay_any lv w
  unfold GrpOk at h
  rcases (by omega : n < 1 ∨ (1 ≤ n ∧ 64 < n) ∨ (1 ≤ n ∧ n ≤ 64 ∧ ¬ (0 ≤ j ∧ j ≤ 64)) ∨ (1 ≤ n ∧ n ≤ 64 ∧ (0 ≤ j ∧ j ≤ 64) ∧ ¬ (0 ≤ lv ∧ lv ≤ 64))) with g | ⟨g, g'⟩ | ⟨g, g', g2⟩ | ⟨g, g', g2, g3⟩
  · clear hj hl h
    go_enter Try.func22, Try.ntmps22
    go_wp2
    go_ret2
    exact ⟨rfl, rfl⟩
  · clear hj hl h
    go_enter Try.func22, Try.ntmps22
    go_wp2
    go_ret2
    exact ⟨rfl, rfl⟩
  · rw [show dlyB j = false from decide_eq_false g2] at hj
    have HJ := Lib.hid hj
    clear hj hl h g2
    go_enter Try.func22, Try.ntmps22
    go_wp2_with ((go_at_call 40; (with_reducible refine HJ.out.mono ?_); rintro e w' ⟨rfl, rfl⟩))
    go_ret2
    exact ⟨rfl, rfl⟩
  · rw [show dlyB j = true from decide_eq_true g2] at hj
    rw [show dlyB lv = false from decide_eq_false g3] at hl
    have HJ := Lib.hid hj
    have HL := Lib.hid hl
    clear hj hl h g2 g3
    go_enter Try.func22, Try.ntmps22
    go_wp2_with (first | (go_at_call 40; (with_reducible refine HJ.out.mono ?_); rintro e w' ⟨rfl, rfl⟩) | (go_at_call 40; (with_reducible refine HL.out.mono ?_); rintro e w' ⟨rfl, rfl⟩))
    go_ret2
    exact ⟨rfl, rfl⟩
end
section
open Go.RowKit
set_option linter.unusedVariables false
set_option linter.unusedSimpArgs false

theorem info_gone : (Try.prog.info? 76).map (fun i => (i.zero, i.size, i.bytes)) = some (some (.agg #[.int .i64 0, .int .i64 0, .int .i64 0, .int .i64 0]), 4, 32) := by kernel_rfl

set_option maxRecDepth 100000 in
set_option maxHeartbeats 1000000 in
/-- slices.Clone: new cells, the same as the old ones; nil of nil. -/
theorem clone_gone (v : Value) (n : Nat) (xs : List Value) (w : World) (h : Reads w 4 v n xs) (hn : n * 32 ≤ 140737488351232) (h1 : ∀ u ∈ xs, u.oneCell' = true) :
    Calls Try.prog 53 #[v] w fun e w' => ∃ A c, e = .returned (.slice A n c) ∧ w'.ownsRow w.heap.size 76 4 (.slice A n c) n xs ∧ Below w.heap.size w w' ∧ (v = .slice none 0 0 ↔ (.slice A n c : Value) = .slice none 0 0) := by
  have hR := h
  obtain ⟨hl, A, c, rfl, h2, h3, h4, h5, h6⟩ := h
  obtain ⟨i0, hi, hz0, hz1, hz2⟩ := info_parts info_gone
  have q22 : ∀ (w : World) (a : Option Addr) (n c n' c' : Nat), (binOp .eql 77 (.slice a n c) (.slice none n' c')).run Try.prog w = .ok (.bool a.isNone) w := fun w a n c n' c' => Lib.run_eql_slice_nil w _ _ a n c n' c' Try.underlying77
  have u22 : ∀ w, Sem.run Try.prog (underlying 77) w = .ok (TypeDesc.slice 76) w := run_underlying Try.underlying77
  cases A with
  | none =>
    obtain ⟨rfl, rfl⟩ := h4 rfl
    have : xs = [] := List.eq_nil_of_length_eq_zero (by simpa using hl)
    subst this
    go_enter Try.func53, Try.ntmps53
    go_wp2
    go_ret
    exact ⟨_, _, rfl, World.ownsRow_nil _ _ _ _, Below.refl _ _, by simp⟩
  | some a =>
    have hc : ∀ j u, xs[j]? = some u → w.cell? (a.add j) = some u := fun j u hu => by
      obtain ⟨b, o, c', he, hc⟩ := hR.at j u hu
      cases he
      have e : (⟨b, o, none⟩ : Addr).add j = ⟨b, o + j, none⟩ := by unfold Addr.add; split <;> simp_all
      rw [e]; exact hc
    have HC := Lib.hid hc
    have HL := Lib.hid hl
    clear hc hl h4 h5 h6 hR
    go_enter Try.func53, Try.ntmps53
    go_wp2_with (at_builtin; refine wpList_append_own _ rfl _ _ 77 rfl w.heap.size 76 i0 (.agg #[.int .i64 0, .int .i64 0, .int .i64 0, .int .i64 0]) 4 32 Try.underlying77 hi hz0 hz1 hz2 rfl (by decide) _ _ _ rfl (World.ownsRow_made w #[] 0 (Nat.le_refl _) (Nat.zero_le _) rfl) a n c xs rfl ?qc1 ?qc2 ?qc3 ?qc4 ?qc5 ?qc6 ?_)
    case qc1 => simpa using HL.out
    case qc2 =>
      intro j u hj
      first | exact HC.out j u hj | exact Lib.cell?_alloc_some _ (HC.out j u hj)
    case qc3 => exact h1
    case qc4 => have := h3; omega
    case qc5 => omega
    try (case qc6 => simp)
    intro v' w1 hown hgrow hnil
    go_wp2
    go_ret
    obtain ⟨A', c', rfl⟩ := ownsRow_slice hown
    refine ⟨A', c', by simp, by simpa using hown, ((Below.refl _ w).alloc (Nat.le_refl _) _).grown hgrow (by simp) (by intro k hk; simp [Value.ownBlock] at hk; omega), ?_⟩
    exact ⟨fun h => by simp at h, fun h => (hnil (by simpa using h)).elim⟩
end
section
open Go.RowKit
set_option linter.unusedVariables false
set_option linter.unusedSimpArgs false

theorem info_int : (Try.prog.info? 3).map (fun i => (i.zero, i.size, i.bytes)) = some (some (.int .i64 0), 1, 8) := by kernel_rfl
/-- the members of a layer among the first k -/
def mem (l : List One) (layer now : Int) : Nat → List Int
  | 0 => []
  | k + 1 => if 0 ≤ layer ∧ layer ≤ (l.getD k one0).at now then mem l layer now k ++ [(k : Int)] else mem l layer now k
theorem mem_len (l : List One) (layer now : Int) (k : Nat) : (mem l layer now k).length ≤ k := by
  induction k with
  | zero => exact Nat.le_refl _
  | succ k ih =>
    unfold mem
    split
    · rw [List.length_append]; simp; exact ih
    · omega

set_option maxRecDepth 100000 in
set_option maxHeartbeats 400000 in
theorem members_any (b g c : Nat) (l : List One) (j lv layer now : Int) (w : World) (h : GrpAt w b g c l j lv) (hl : l.length ≤ 64) :
    Calls Try.prog 28 #[.pointer (some ⟨b, 0, none⟩), .int .i64 layer, .int .i64 now] w fun e w' => ∃ A cc, e = .returned (.slice A (mem l layer now l.length).length cc) ∧
      w'.ownsRow w.heap.size 3 1 (.slice A (mem l layer now l.length).length cc) (mem l layer now l.length).length ((mem l layer now l.length).map (Value.int .i64)) ∧ Below w.heap.size w w' := by
  obtain ⟨i0, hi, hz0, hz1, hz2⟩ := info_parts info_int
  obtain ⟨c0, -, -⟩ := h.cells
  have H := Lib.hid h
  clear h
  go_enter Try.func28, Try.ntmps28
  go_wp2
  go_loopw [7, 8, 9, 15] (fun o _ _ i wr => ∃ k : Nat, k ≤ l.length ∧ i = .int .i64 k ∧ Hid (wr.ownsRow w.heap.size 3 1 o (mem l layer now k).length ((mem l layer now k).map (Value.int .i64))) ∧ Below w.heap.size w wr) (fun _ _ _ i _ => l.length - (intOf i).toNat)
  case atStart => exact ⟨0, by omega, rfl, World.ownsRow_nil _ _ _ _, Below.refl _ _⟩
  case round =>
    clear c0
    obtain ⟨k, hk, rfl, hown, hb⟩ := hrel
    have hs := hb.size
    by_cases hlt : k < l.length
    · have hkl := mem_len l layer now k
      have ho := List.getElem?_eq_getElem hlt
      obtain ⟨o, hoe⟩ : ∃ o, o = l[k] := ⟨_, rfl⟩
      rw [← hoe] at ho
      have hgd : l.getD k one0 = o := by rw [List.getD_eq_getElem?_getD, ho]; rfl
      obtain ⟨o0, o1, o2, o3⟩ := (H.out.below hb).one ho
      have i1 : (0 : Int) ≤ (k : Int) := by omega
      have i2 : (k : Int) < (l.length : Int) := by omega
      have hd : mem l layer now (k + 1) = if 0 ≤ layer ∧ layer ≤ o.at now then mem l layer now k ++ [(k : Int)] else mem l layer now k := by rw [← hgd]; rfl
      clear hgd hoe ho
      by_cases d0 : 0 ≤ layer
      · by_cases d1 : layer ≤ o.at now
        · rw [if_pos ⟨d0, d1⟩] at hd
          have HD := Lib.hid hd
          clear hd
          go_wp2_with fail
          refine (at_any o now _).mono ?_
          rintro e w1 ⟨rfl, hb1⟩
          have HO1 := Lib.hid (ownsRow_keep ((Hid.out hown).alloc (.cells #[.int .i64 o.level, .int .i64 o.next, .int .i64 o.due, .int .i64 o.asked] 76)) (Keep.none hb1) (fun _ _ => id))
          have q1 : Below w.heap.size w w1 := (hb.alloc hs _).trans (hb1.mono (by simp; omega))
          have hs1 := q1.size
          clear hb1 o0 o1 o2 o3
          go_wp2_with (at_builtin; refine wpList_app1 rfl _ _ 81 rfl w.heap.size 3 i0 (.int .i64 0) 1 8 Try.underlying81 hi hz0 hz1 hz2 rfl _ (mem l layer now k).length _ rfl HO1.out #[.int .i64 (k : Int)] 1 rfl rfl (by intro u hu; simp at hu; subst hu; rfl) (by omega) (by omega) hs1 ?_; rintro A2 c2 w2 hown2 hk2 - -)
          have hb2 : Below w.heap.size w w2 := q1.trans (hk2.below (fun g hg => (HO1.out.lt g hg).1) hs1)
          have HO : Hid (w2.ownsRow w.heap.size 3 1 (.slice A2 ((mem l layer now k).length + 1) c2) (mem l layer now (k + 1)).length ((mem l layer now (k + 1)).map (Value.int .i64))) := by
            show World.ownsRow ..
            rw [HD.out, List.map_append, List.length_append]; exact hown2
          clear hown2 hk2
          go_wp2
          go_roundw
          case rel => exact ⟨k + 1, by omega, by go_num, HO, hb2⟩
          case measure => simp [intOf]; omega
        · rw [if_neg (fun h => d1 h.2)] at hd
          have HD := Lib.hid hd
          clear hd
          go_wp2_with fail
          refine (at_any o now _).mono ?_
          rintro e w1 ⟨rfl, hb1⟩
          have HO1 := Lib.hid (ownsRow_keep ((Hid.out hown).alloc (.cells #[.int .i64 o.level, .int .i64 o.next, .int .i64 o.due, .int .i64 o.asked] 76)) (Keep.none hb1) (fun _ _ => id))
          have q1 : Below w.heap.size w w1 := (hb.alloc hs _).trans (hb1.mono (by simp; omega))
          clear hb1 o0 o1 o2 o3
          go_wp2
          go_roundw
          case rel => exact ⟨k + 1, by omega, by go_num, by rw [HD.out]; exact HO1, q1⟩
          case measure => simp [intOf]; omega
      · rw [if_neg (fun h => d0 h.1)] at hd
        have HD := Lib.hid hd
        clear hd
        go_wp2
        go_roundw
        case rel => exact ⟨k + 1, by omega, by go_num, by rw [HD.out]; exact (Hid.out hown).alloc _, hb.alloc hs _⟩
        case measure => simp [intOf]; omega
    · obtain rfl : k = l.length := by omega
      have ho := Hid.out hown
      obtain ⟨A', c', hv⟩ := ownsRow_slice ho
      subst hv
      go_wp2
      go_ret
      exact ⟨_, _, rfl, ho, hb⟩

set_option maxRecDepth 100000 in
set_option maxHeartbeats 400000 in
theorem copy_any (b g c : Nat) (l : List One) (j lv : Int) (w : World) (h : GrpAt w b g c l j lv) (hl : 0 < l.length ∧ l.length ≤ 64) :
    Calls Try.prog 38 #[.pointer (some ⟨b, 0, none⟩)] w fun e w' => ∃ b' g' c', e = .returned (.pointer (some ⟨b', 0, none⟩)) ∧ GrpAt w' b' g' c' l j lv ∧ w.heap.size ≤ b' ∧ w.heap.size ≤ g' ∧ Below w.heap.size w w' := by
  obtain ⟨c0, c1, c2⟩ := h.cells
  have HR := Lib.hid (Reads.of_owns h.row)
  have h1 : ∀ u ∈ l.flatMap oneCells, u.oneCell' = true := by
    intro u hu
    obtain ⟨o, -, hu⟩ := List.mem_flatMap.1 hu
    simp [oneCells] at hu
    rcases hu with rfl | rfl | rfl | rfl <;> rfl
  have HC := Lib.hid (fun W (hW : Reads W 4 (.slice (some ⟨g, 0, none⟩) l.length c) l.length (l.flatMap oneCells)) => clone_gone _ l.length _ W hW (by omega) h1)
  have HG := Lib.hid h
  clear h h1
  go_enter Try.func38, Try.ntmps38
  go_wp2_with fail
  go_region_held3 (fun w' => w'.cell? ⟨b, 0, none⟩ = some (.slice (some ⟨g, 0, none⟩) l.length c) ∧ w'.cell? ⟨b, 1, none⟩ = some (.int .i64 j) ∧ w'.cell? ⟨b, 2, none⟩ = some (.int .i64 lv)) (first | exact ⟨c0, c1, c2⟩ | exact d1 | exact d2)
    (first
      | (go_at_call 53; refine (HC.out _ (HR.out.drewN 1)).mono ?_; rintro e w1 ⟨A1, cc, rfl, ho1, hb1, hn1⟩; have d1 := ((HG.out.drewN 1).below hb1).cells; have d2 := (((HG.out.drewN 1).below hb1).below ((Below.refl _ w1).alloc (Nat.le_refl _) (.cells #[.slice A1 l.length cc, .int .i64 j, .int .i64 lv] 79))).cells; have HO1 := Lib.hid ho1; have HB1 := Lib.hid hb1; have HN1 := Lib.hid hn1; clear ho1 hb1 hn1))
  clear c0 c1 c2 d1 d2
  go_wp2
  go_ret
  have hs1 : w.heap.size ≤ w1.heap.size := HB1.out.size
  have hb : Below w.heap.size w w1 := ⟨HB1.out.os, HB1.out.tape, HB1.out.output, HB1.out.size, HB1.out.block⟩
  rcases HO1.out.2 with ⟨hv, _⟩ | ⟨g', cap, cur, hv, hg, hh, e1, e2, e3, e4⟩
  · have := HN1.out.2 hv; cases this
  · injection hv with hA h2 h3
    subst hA
    subst h3
    have hlt : g' < w1.heap.size := (Array.getElem?_eq_some_iff.1 hh).1
    have hrow : w1.ownsRow 0 76 4 (.slice (some ⟨g', 0, none⟩) l.length cc) l.length (l.flatMap oneCells) := ownsRow_base HO1.out (Nat.zero_le _)
    exact ⟨w1.heap.size, g', cc, rfl, ⟨Blk.new w1 _ _, hrow.alloc _, by omega⟩, hs1, hg, hb.alloc hs1 _⟩

theorem flat_set4 : ∀ (l : List One) (r : Nat) (o : One), r < l.length → ((((l.flatMap oneCells).set (r * 4) (.int .i64 o.level)).set (r * 4 + 1) (.int .i64 o.next)).set (r * 4 + 2) (.int .i64 o.due)).set (r * 4 + 3) (.int .i64 o.asked) = (l.set r o).flatMap oneCells
  | [], r, o, h => by simp at h
  | z :: l, 0, o, _ => by simp [oneCells]
  | z :: l, r + 1, o, h => by
    have ih := flat_set4 l r o (by simpa using h)
    rw [List.set_cons_succ, List.flatMap_cons, List.flatMap_cons, ← ih, show (r + 1) * 4 = r * 4 + 4 by omega]
    simp [oneCells]
theorem GrpAt.set {w : World} {b g c : Nat} {l : List One} {j lv : Int} (h : GrpAt w b g c l j lv) {r : Nat} (hr : r < l.length) (o : One) :
    GrpAt ((((w.setCell ⟨g, r * 4, none⟩ (.int .i64 o.level)).setCell ⟨g, r * 4 + 1, none⟩ (.int .i64 o.next)).setCell ⟨g, r * 4 + 2, none⟩ (.int .i64 o.due)).setCell ⟨g, r * 4 + 3, none⟩ (.int .i64 o.asked)) b g c (l.set r o) j lv := by
  have hl : (l.flatMap oneCells).length = l.length * 4 := flatMap_length oneCells_len l
  refine ⟨?_, ?_, h.ne⟩
  · rw [List.length_set]
    exact (((h.str.setOther h.ne _).setOther h.ne _).setOther h.ne _).setOther h.ne _
  · rw [List.length_set, ← flat_set4 l r o hr]
    have h1 := ownsRow_set h.row (j := r * 4) (by omega) (.int .i64 o.level)
    have h2 := ownsRow_set h1 (j := r * 4 + 1) (by rw [List.length_set]; omega) (.int .i64 o.next)
    have h3 := ownsRow_set h2 (j := r * 4 + 2) (by rw [List.length_set, List.length_set]; omega) (.int .i64 o.due)
    exact ownsRow_set h3 (j := r * 4 + 3) (by rw [List.length_set, List.length_set, List.length_set]; omega) (.int .i64 o.asked)
theorem keep_set4 {w w1 : World} {g : Nat} (h : Below w.heap.size w w1) (v0 v1 v2 v3 : Value) (o0 o1 o2 o3 : Nat) : Keep (fun k => k = g) w ((((w1.setCell ⟨g, o0, none⟩ v0).setCell ⟨g, o1, none⟩ v1).setCell ⟨g, o2, none⟩ v2).setCell ⟨g, o3, none⟩ v3) :=
  ((((Keep.ofBelowAll (S := fun k => k = g) h).setCell (.inl rfl) _).setCell (.inl rfl) _).setCell (.inl rfl) _).setCell (.inl rfl) _

/-- an ask, taken in -/
def stp (j lv : Int) (o : One) (level now : Int) : One := ⟨o.at now, level, now + (if o.at now < level then j else lv), now⟩
def AskOk (n : Nat) (r level now : Int) : Prop := 0 ≤ r ∧ r < n ∧ -1 ≤ level ∧ level ≤ 7 ∧ 0 ≤ now ∧ now ≤ 1099511627776
set_option maxRecDepth 100000 in
set_option maxHeartbeats 400000 in
theorem ask_range (b g c : Nat) (l : List One) (j lv r level now : Int) (w : World) (h : GrpAt w b g c l j lv) (hn : ¬ AskOk l.length r level now) :
    Calls Try.prog 9 #[.pointer (some ⟨b, 0, none⟩), .int .i64 r, .int .i64 level, .int .i64 now] w fun e w' => e = .returned (.int .i64 11) ∧ w = w' := by
  have hh := has_any b g c l j lv r w h
  unfold AskOk at hn
  rcases (by omega : ¬ (0 ≤ r ∧ r < (l.length : Int)) ∨ ((0 ≤ r ∧ r < (l.length : Int)) ∧ level < -1) ∨ ((0 ≤ r ∧ r < (l.length : Int)) ∧ -1 ≤ level ∧ 7 < level) ∨ ((0 ≤ r ∧ r < (l.length : Int)) ∧ -1 ≤ level ∧ level ≤ 7 ∧ now < 0) ∨ ((0 ≤ r ∧ r < (l.length : Int)) ∧ -1 ≤ level ∧ level ≤ 7 ∧ 0 ≤ now ∧ 1099511627776 < now)) with
    g1 | ⟨g0, g1⟩ | ⟨g0, g1, g2⟩ | ⟨g0, g1, g2, g3⟩ | ⟨g0, g1, g2, g3, g4⟩
  · rw [show hasB l.length r = false from decide_eq_false g1] at hh
    have HH := Lib.hid hh
    clear h hh hn g1
    go_enter Try.func9, Try.ntmps9
    go_wp2_with fail
    refine HH.out.mono ?_
    rintro e w' ⟨rfl, rfl⟩
    go_wp2
    go_ret
    exact ⟨rfl, rfl⟩
  all_goals
    rw [show hasB l.length r = true from decide_eq_true g0] at hh
    have HH := Lib.hid hh
    clear h hh hn g0
    go_enter Try.func9, Try.ntmps9
    go_wp2_with fail
    refine HH.out.mono ?_
    rintro e w' ⟨rfl, rfl⟩
    go_wp2
    go_ret
    exact ⟨rfl, rfl⟩
set_option maxRecDepth 100000 in
set_option maxHeartbeats 400000 in
theorem ask_stale (b g c : Nat) (l : List One) (j lv level now : Int) (r : Nat) (o : One) (w : World) (h : GrpAt w b g c l j lv) (hr : l[r]? = some o) (hn : AskOk l.length r level now) (hs : now < o.asked) :
    Calls Try.prog 9 #[.pointer (some ⟨b, 0, none⟩), .int .i64 r, .int .i64 level, .int .i64 now] w fun e w' => e = .returned (.int .i64 23) ∧ w = w' := by
  have hh := has_any b g c l j lv r w h
  obtain ⟨c0, -, -⟩ := h.cells
  obtain ⟨o0, o1, o2, o3⟩ := h.one hr
  obtain ⟨g0, g1, g2, g3, g4, g5⟩ := hn
  rw [show hasB l.length r = true from decide_eq_true ⟨g0, g1⟩] at hh
  have HH := Lib.hid hh
  clear h hh hr
  go_enter Try.func9, Try.ntmps9
  go_wp2_with fail
  refine HH.out.mono ?_
  rintro e w' ⟨rfl, rfl⟩
  go_wp2
  go_ret
  exact ⟨rfl, rfl⟩
set_option maxRecDepth 100000 in
set_option maxHeartbeats 400000 in
theorem ask_yes (b g c : Nat) (l : List One) (j lv level now : Int) (r : Nat) (o : One) (w : World) (h : GrpAt w b g c l j lv) (hr : l[r]? = some o) (hn : AskOk l.length r level now) (hs : o.asked ≤ now) (hjl : 0 ≤ j ∧ j ≤ 64 ∧ 0 ≤ lv ∧ lv ≤ 64) :
    Calls Try.prog 9 #[.pointer (some ⟨b, 0, none⟩), .int .i64 r, .int .i64 level, .int .i64 now] w fun e w' => e = .returned (.int .i64 0) ∧ GrpAt w' b g c (l.set r (stp j lv o level now)) j lv ∧ Keep (fun k => k = g) w w' := by
  have hh := has_any b g c l j lv r w h
  obtain ⟨c0, c1, c2⟩ := h.cells
  obtain ⟨o0, o1, o2, o3⟩ := h.one hr
  obtain ⟨g0, g1, g2, g3, g4, g5⟩ := hn
  obtain ⟨k1, k2, k3, k4⟩ := hjl
  rw [show hasB l.length r = true from decide_eq_true ⟨g0, g1⟩] at hh
  have HH := Lib.hid hh
  have HG := Lib.hid h
  have HR := Lib.hid hr
  have hat := at_any o now
  obtain ⟨a, ha⟩ : ∃ a, a = o.at now := ⟨_, rfl⟩
  rw [← ha] at hat
  have HA := Lib.hid ha
  have HAT := Lib.hid hat
  have t1 : decide (level < -1) = false := decide_eq_false (by omega)
  have t2 : decide (8 ≤ level) = false := decide_eq_false (by omega)
  have t3 : decide (now < 0) = false := decide_eq_false (by omega)
  have t4 : decide (1099511627776 < now) = false := decide_eq_false (by omega)
  have t5 : decide (now < o.asked) = false := decide_eq_false (by omega)
  clear h hh hr ha hat
  by_cases hlv : a < level
  · go_enter Try.func9, Try.ntmps9
    go_wp2_with fail
    refine HH.out.mono ?_
    rintro e w' ⟨rfl, rfl⟩
    go_wp2_with fail
    refine (HAT.out _).mono ?_
    rintro e w1 ⟨rfl, hb1⟩
    have HG1 := Lib.hid (HG.out.below hb1)
    clear c0 c1 c2 o0 o1 o2 o3
    obtain ⟨c0, c1, c2⟩ := HG1.out.cells
    obtain ⟨o0, o1, o2, o3⟩ := HG1.out.one HR.out
    have f0 := ownsRow_frozen HG1.out.row (r * 4)
    have f1 := ownsRow_frozen HG1.out.row (r * 4 + 1)
    have f2 := ownsRow_frozen HG1.out.row (r * 4 + 2)
    have f3 := ownsRow_frozen HG1.out.row (r * 4 + 3)
    have HB1 := Lib.hid hb1
    clear hb1
    go_wp2
    go_ret
    have e : stp j lv o level now = ⟨a, level, now + j, now⟩ := by unfold stp; rw [← HA.out]; first | rw [if_pos hlv] | rw [if_neg (by omega)]
    rw [e]
    exact ⟨rfl, HG1.out.set (List.getElem?_eq_some_iff.1 HR.out).1 ⟨a, level, now + j, now⟩, keep_set4 HB1.out _ _ _ _ _ _ _ _⟩
  · go_enter Try.func9, Try.ntmps9
    go_wp2_with fail
    refine HH.out.mono ?_
    rintro e w' ⟨rfl, rfl⟩
    go_wp2_with fail
    refine (HAT.out _).mono ?_
    rintro e w1 ⟨rfl, hb1⟩
    have HG1 := Lib.hid (HG.out.below hb1)
    clear c0 c1 c2 o0 o1 o2 o3
    obtain ⟨c0, c1, c2⟩ := HG1.out.cells
    obtain ⟨o0, o1, o2, o3⟩ := HG1.out.one HR.out
    have f0 := ownsRow_frozen HG1.out.row (r * 4)
    have f1 := ownsRow_frozen HG1.out.row (r * 4 + 1)
    have f2 := ownsRow_frozen HG1.out.row (r * 4 + 2)
    have f3 := ownsRow_frozen HG1.out.row (r * 4 + 3)
    have HB1 := Lib.hid hb1
    clear hb1
    go_wp2
    go_ret
    have e : stp j lv o level now = ⟨a, level, now + lv, now⟩ := by unfold stp; rw [← HA.out]; first | rw [if_pos hlv] | rw [if_neg (by omega)]
    rw [e]
    exact ⟨rfl, HG1.out.set (List.getElem?_eq_some_iff.1 HR.out).1 ⟨a, level, now + lv, now⟩, keep_set4 HB1.out _ _ _ _ _ _ _ _⟩
end
section
open Go.RowKit
set_option linter.unusedVariables false
set_option linter.unusedSimpArgs false

theorem info_fate : (Try.prog.info? 39).map (fun i => (i.zero, i.size, i.bytes)) = some (some (.agg #[.int .i64 0, .int .i64 0]), 2, 16) := by kernel_rfl

set_option maxRecDepth 100000 in
set_option maxHeartbeats 1000000 in
/-- slices.Clone: new cells, the same as the old ones; nil of nil. -/
theorem clone_fate (v : Value) (n : Nat) (xs : List Value) (w : World) (h : Reads w 2 v n xs) (hn : n * 16 ≤ 140737488351232) (h1 : ∀ u ∈ xs, u.oneCell' = true) :
    Calls Try.prog 23 #[v] w fun e w' => ∃ A c, e = .returned (.slice A n c) ∧ w'.ownsRow w.heap.size 39 2 (.slice A n c) n xs ∧ Below w.heap.size w w' ∧ (v = .slice none 0 0 ↔ (.slice A n c : Value) = .slice none 0 0) := by
  have hR := h
  obtain ⟨hl, A, c, rfl, h2, h3, h4, h5, h6⟩ := h
  obtain ⟨i0, hi, hz0, hz1, hz2⟩ := info_parts info_fate
  have q22 : ∀ (w : World) (a : Option Addr) (n c n' c' : Nat), (binOp .eql 22 (.slice a n c) (.slice none n' c')).run Try.prog w = .ok (.bool a.isNone) w := fun w a n c n' c' => Lib.run_eql_slice_nil w _ _ a n c n' c' Try.underlying22
  have u22 : ∀ w, Sem.run Try.prog (underlying 22) w = .ok (TypeDesc.slice 39) w := run_underlying Try.underlying22
  cases A with
  | none =>
    obtain ⟨rfl, rfl⟩ := h4 rfl
    have : xs = [] := List.eq_nil_of_length_eq_zero (by simpa using hl)
    subst this
    go_enter Try.func23, Try.ntmps23
    go_wp2
    go_ret
    exact ⟨_, _, rfl, World.ownsRow_nil _ _ _ _, Below.refl _ _, by simp⟩
  | some a =>
    have hc : ∀ j u, xs[j]? = some u → w.cell? (a.add j) = some u := fun j u hu => by
      obtain ⟨b, o, c', he, hc⟩ := hR.at j u hu
      cases he
      have e : (⟨b, o, none⟩ : Addr).add j = ⟨b, o + j, none⟩ := by unfold Addr.add; split <;> simp_all
      rw [e]; exact hc
    have HC := Lib.hid hc
    have HL := Lib.hid hl
    clear hc hl h4 h5 h6 hR
    go_enter Try.func23, Try.ntmps23
    go_wp2_with (at_builtin; refine wpList_append_own _ rfl _ _ 22 rfl w.heap.size 39 i0 (.agg #[.int .i64 0, .int .i64 0]) 2 16 Try.underlying22 hi hz0 hz1 hz2 rfl (by decide) _ _ _ rfl (World.ownsRow_made w #[] 0 (Nat.le_refl _) (Nat.zero_le _) rfl) a n c xs rfl ?qc1 ?qc2 ?qc3 ?qc4 ?qc5 ?qc6 ?_)
    case qc1 => simpa using HL.out
    case qc2 =>
      intro j u hj
      first | exact HC.out j u hj | exact Lib.cell?_alloc_some _ (HC.out j u hj)
    case qc3 => exact h1
    case qc4 => have := h3; omega
    case qc5 => omega
    try (case qc6 => simp)
    intro v' w1 hown hgrow hnil
    go_wp2
    go_ret
    obtain ⟨A', c', rfl⟩ := ownsRow_slice hown
    refine ⟨A', c', by simp, by simpa using hown, ((Below.refl _ w).alloc (Nat.le_refl _) _).grown hgrow (by simp) (by intro k hk; simp [Value.ownBlock] at hk; omega), ?_⟩
    exact ⟨fun h => by simp at h, fun h => (hnil (by simpa using h)).elim⟩
end
section
open Go.RowKit
set_option linter.unusedVariables false
set_option linter.unusedSimpArgs false

structure FD where
  kind : Int
  n : Int
def fateCells (o : FD) : List Value := [.int .i64 o.kind, .int .i64 o.n]
theorem fateCells_len (o : FD) : (fateCells o).length = 2 := rfl
structure StN where
  sent : Int
  lost : Int
  dropped : Int
  doubled : Int
  late : Int
  turned : Int
def stN0 : StN := ⟨0, 0, 0, 0, 0, 0⟩
structure GD where
  b : Nat
  g : Nat
  c : Nat
  l : List One
  j : Int
  lv : Int
structure PD where
  b : Nat
  v : Value
  l : List Msg
def pipeC (p : PD) : Value := .pointer (some ⟨p.b, 0, none⟩)
def netC (gb : Nat) (delay : Int) (pv fv : Value) (used : Int) (s : StN) : Array Value :=
  #[.pointer (some ⟨gb, 0, none⟩), .int .i64 delay, pv, fv, .int .i64 used, .int .i64 s.sent, .int .i64 s.lost, .int .i64 s.dropped, .int .i64 s.doubled, .int .i64 s.late, .int .i64 s.turned]
theorem PAt.monoR {R R' : Nat → Prop} {G : Nat → Prop} {w : World} {b : Nat} {v : Value} {l : List Msg} {room : Int} (h : PAt R w G b v l room) (hs : ∀ q, R q → q < w.heap.size → R' q) : PAt R' w G b v l room :=
  ⟨h.str, h.row, fun m hm => (h.by' m hm).mono (fun q hq hl => ⟨hq.1.imp id (fun x => hs _ x hl), hq.2⟩), h.gb, h.gv⟩
/-- a net; each of its blocks has a colour, so that no two of its parts share one -/
structure NetAt (w : World) (col : Nat → Nat) (nb : Nat) (gd : GD) (delay room : Int) (pv : Value) (P : List PD) (fv : Value) (F : List FD) (used : Nat) (s : StN) : Prop where
  str : Blk w nb (netC gd.b delay pv fv (used : Int) s) 37
  grp : GrpAt w gd.b gd.g gd.c gd.l gd.j gd.lv
  row : w.ownsRow 0 71 1 pv P.length (P.map pipeC)
  fates : w.ownsRow 0 39 2 fv F.length (F.flatMap fateCells)
  pipes : ∀ i p, P[i]? = some p → PAt (fun x => col x = 5) w (fun x => col x = 6 + i) p.b p.v p.l room
  c1 : col nb = 1
  c2 : col gd.b = 2
  c3 : col gd.g = 3
  c4 : ∀ x, pv.ownBlock = some x → col x = 4
  c5 : ∀ x, fv.ownBlock = some x → col x = 5
  top : ∀ x, w.heap.size ≤ x → col x = 0
theorem NetAt.keep {S : Nat → Prop} {w w' : World} {col : Nat → Nat} {nb : Nat} {gd : GD} {delay room : Int} {pv : Value} {P : List PD} {fv : Value} {F : List FD} {used : Nat} {s : StN}
    (h : NetAt w col nb gd delay room pv P fv F used s) (hk : Keep S w w') (hs : ∀ x, col x ≠ 0 → ¬ S x) : NetAt w' col nb gd delay room pv P fv F used s :=
  ⟨h.str.keep hk (hs _ (by rw [h.c1]; decide)), h.grp.keep hk (hs _ (by rw [h.c2]; decide)) (hs _ (by rw [h.c3]; decide)), ownsRow_keep h.row hk (fun g hg => hs _ (by rw [h.c4 g hg]; decide)),
    ownsRow_keep h.fates hk (fun g hg => hs _ (by rw [h.c5 g hg]; decide)), fun i p hp => (h.pipes i p hp).keep hk (fun q hq => hs q (by have hq : col q = 6 + i ∨ col q = 5 := hq; omega)), h.c1, h.c2, h.c3, h.c4, h.c5,
    fun x hx => h.top x (Nat.le_trans hk.size hx)⟩
theorem NetAt.below {w w' : World} {col : Nat → Nat} {nb : Nat} {gd : GD} {delay room : Int} {pv : Value} {P : List PD} {fv : Value} {F : List FD} {used : Nat} {s : StN}
    (h : NetAt w col nb gd delay room pv P fv F used s) (hb : Below w.heap.size w w') : NetAt w' col nb gd delay room pv P fv F used s := h.keep (Keep.none hb) (fun _ _ => id)
theorem blk11 {w : World} {b : Nat} {v0 v1 v2 v3 v4 v5 v6 v7 v8 v9 v10 : Value} {T : TypeId} (h : Blk w b #[v0, v1, v2, v3, v4, v5, v6, v7, v8, v9, v10] T) :
    w.cell? ⟨b, 0, none⟩ = some v0 ∧ w.cell? ⟨b, 1, none⟩ = some v1 ∧ w.cell? ⟨b, 2, none⟩ = some v2 ∧ w.cell? ⟨b, 3, none⟩ = some v3 ∧ w.cell? ⟨b, 4, none⟩ = some v4 ∧ w.cell? ⟨b, 5, none⟩ = some v5 ∧ w.cell? ⟨b, 6, none⟩ = some v6 ∧
      w.cell? ⟨b, 7, none⟩ = some v7 ∧ w.cell? ⟨b, 8, none⟩ = some v8 ∧ w.cell? ⟨b, 9, none⟩ = some v9 ∧ w.cell? ⟨b, 10, none⟩ = some v10 :=
  ⟨h.cell 0 rfl, h.cell 1 rfl, h.cell 2 rfl, h.cell 3 rfl, h.cell 4 rfl, h.cell 5 rfl, h.cell 6 rfl, h.cell 7 rfl, h.cell 8 rfl, h.cell 9 rfl, h.cell 10 rfl⟩
section
variable {w : World} {col : Nat → Nat} {nb : Nat} {gd : GD} {delay room : Int} {pv : Value} {P : List PD} {fv : Value} {F : List FD} {used : Nat} {s : StN}
theorem netUsed_any (h : NetAt w col nb gd delay room pv P fv F used s) :
    Calls Try.prog 14 #[.pointer (some ⟨nb, 0, none⟩)] w fun e w' => e = .returned (.int .i64 (used : Int)) ∧ w = w' := by
  obtain ⟨n0, n1, n2, n3, n4, -⟩ := blk11 h.str
  clear h
  go_enter Try.func14, Try.ntmps14
  go_wp2
  go_ret
  exact ⟨rfl, rfl⟩
set_option maxRecDepth 100000 in
theorem netStats_any (h : NetAt w col nb gd delay room pv P fv F used s) :
    Calls Try.prog 12 #[.pointer (some ⟨nb, 0, none⟩)] w fun e w' => e = .returned (.agg #[.int .i64 s.sent, .int .i64 s.lost, .int .i64 s.dropped, .int .i64 s.doubled, .int .i64 s.late, .int .i64 s.turned]) ∧ Below w.heap.size w w' := by
  obtain ⟨n0, n1, n2, n3, n4, n5, n6, n7, n8, n9, n10⟩ := blk11 h.str
  have hb0 : ∀ o, Below w.heap.size w (w.alloc o) := fun o => (Below.refl _ w).alloc (Nat.le_refl _) o
  have HB0 := Lib.hid hb0
  have hlt := h.str.lt
  clear h hb0
  go_enter Try.func12, Try.ntmps12
  go_wp2
  refine bodyPost_ret (v := .agg #[.int .i64 s.sent, .int .i64 s.lost, .int .i64 s.dropped, .int .i64 s.doubled, .int .i64 s.late, .int .i64 s.turned]) ?_ rfl ⟨rfl, HB0.out _⟩
  simp [results, Try.results12, go_sem]
theorem net_has (h : NetAt w col nb gd delay room pv P fv F used s) (r : Int) :
    Calls Try.prog 30 #[.pointer (some ⟨nb, 0, none⟩), .int .i64 r] w fun e w' => e = .returned (.bool (hasB gd.l.length r)) ∧ w = w' := by
  obtain ⟨n0, -⟩ := blk11 h.str
  have HC := Lib.hid (count_any gd.b gd.g gd.c gd.l gd.j gd.lv w h.grp)
  clear h
  rcases (by omega : r < 0 ∨ (0 ≤ r ∧ r < gd.l.length) ∨ (0 ≤ r ∧ gd.l.length ≤ r)) with g | ⟨g, g'⟩ | ⟨g, g'⟩
  · have hh : hasB gd.l.length r = false := decide_eq_false (by omega)
    rw [hh]
    go_enter Try.func30, Try.ntmps30
    go_wp2
    go_ret
    exact ⟨rfl, rfl⟩
  all_goals
    first
      | (have hh : hasB gd.l.length r = true := decide_eq_true ⟨g, g'⟩; rw [hh])
      | (have hh : hasB gd.l.length r = false := decide_eq_false (by omega); rw [hh])
    clear hh
    go_enter Try.func30, Try.ntmps30
    go_wp2_with fail
    refine HC.out.mono ?_
    rintro e w2 ⟨rfl, rfl⟩
    go_wp2
    go_ret
    exact ⟨by simp; try omega, rfl⟩
end
def setc (col : Nat → Nat) (lo hi c : Nat) : Nat → Nat := fun x => if lo ≤ x ∧ x < hi then c else col x
theorem setc_in {col : Nat → Nat} {lo hi c x : Nat} (h : lo ≤ x) (h2 : x < hi) : setc col lo hi c x = c := if_pos ⟨h, h2⟩
theorem setc_lo {col : Nat → Nat} {lo hi c x : Nat} (h : x < lo) : setc col lo hi c x = col x := if_neg (by omega)
theorem setc_hi {col : Nat → Nat} {lo hi c x : Nat} (h : hi ≤ x) : setc col lo hi c x = col x := if_neg (by omega)
section
variable {w w' : World} {col : Nat → Nat} {nb : Nat} {gd : GD} {delay room : Int} {pv : Value} {P : List PD} {fv : Value} {F : List FD} {used : Nat} {s : StN}
theorem NetAt.lt (h : NetAt w col nb gd delay room pv P fv F used s) {x : Nat} (hx : col x ≠ 0) : x < w.heap.size := by
  rcases Nat.lt_or_ge x w.heap.size with g | g
  · exact g
  · exact absurd (h.top x g) hx
/-- one cell of the net is set -/
theorem NetAt.set {used' : Nat} {s' : StN} {i : Nat} {u : Value} (h : NetAt w col nb gd delay room pv P fv F used s) (e : (netC gd.b delay pv fv used s).setIfInBounds i u = netC gd.b delay pv fv used' s') :
    NetAt (w.setCell ⟨nb, i, none⟩ u) col nb gd delay room pv P fv F used' s' := by
  have hk : Keep (fun q => q = nb) w (w.setCell ⟨nb, i, none⟩ u) := (Keep.refl (fun q => q = nb) w).setCell (p := ⟨nb, i, none⟩) (.inl rfl) _
  have hn : ∀ x, col x ≠ 1 → ¬ x = nb := fun x hx e => hx (by rw [e]; exact h.c1)
  exact ⟨h.str.set' e, h.grp.keep hk (hn _ (by rw [h.c2]; decide)) (hn _ (by rw [h.c3]; decide)), ownsRow_keep h.row hk (fun g hg => hn _ (by rw [h.c4 g hg]; decide)),
    ownsRow_keep h.fates hk (fun g hg => hn _ (by rw [h.c5 g hg]; decide)), fun i p hp => (h.pipes i p hp).keep hk (fun q hq => hn q (by have hq : col q = 6 + i ∨ col q = 5 := hq; omega)), h.c1, h.c2, h.c3, h.c4, h.c5,
    fun x hx => h.top x (by simpa using hx)⟩
/-- a pipe's messages have changed -/
theorem NetAt.pipe {i : Nat} {p : PD} {v' : Value} {l' : List Msg} (h : NetAt w col nb gd delay room pv P fv F used s) (hp : P[i]? = some p) (hk : Keep (fun q => col q = 6 + i) w w')
    (hq : PAt (fun x => col x = 5) w' (fun q => col q = 6 + i ∨ w.heap.size ≤ q) p.b v' l' room) : NetAt w' (setc col w.heap.size w'.heap.size (6 + i)) nb gd delay room pv (P.set i ⟨p.b, v', l'⟩) fv F used s := by
  have hn : ∀ x, col x ≠ 6 + i → ¬ col x = 6 + i := fun x hx => hx
  have hc : ∀ {x : Nat}, col x ≠ 0 → setc col w.heap.size w'.heap.size (6 + i) x = col x := fun {x} hx => setc_lo (h.lt hx)
  have c0 : ∀ {x c : Nat}, col x = c → c ≠ 0 → setc col w.heap.size w'.heap.size (6 + i) x = c := fun {x c} hx h0 => by rw [hc (by rw [hx]; exact h0), hx]
  have hm : (P.set i ⟨p.b, v', l'⟩).map pipeC = P.map pipeC := by
    rw [List.map_set]
    refine List.ext_getElem? fun j => ?_
    rw [List.getElem?_set]
    split
    · rename_i e
      subst e
      rw [List.getElem?_map, hp]
      have hlt : i < P.length := (List.getElem?_eq_some_iff.1 hp).1
      simp [hlt, pipeC]
    · rfl
  refine ⟨h.str.keep hk (by rw [h.c1]; omega), h.grp.keep hk (by rw [h.c2]; omega) (by rw [h.c3]; omega), ?_, ownsRow_keep h.fates hk (fun g hg => by rw [h.c5 g hg]; omega), fun j q hj => ?_, c0 h.c1 (by decide), c0 h.c2 (by decide), c0 h.c3 (by decide), fun x hx => c0 (h.c4 x hx) (by decide), fun x hx => c0 (h.c5 x hx) (by decide), fun x hx => ?_⟩
  · rw [List.length_set, hm]
    exact ownsRow_keep h.row hk (fun g hg => by rw [h.c4 g hg]; omega)
  · by_cases e : i = j
    · subst e
      have hlt : i < P.length := (List.getElem?_eq_some_iff.1 hp).1
      rw [List.getElem?_set_self hlt] at hj
      cases hj
      exact (hq.mono (fun x hx hl => hx.elim (fun e => c0 e (by omega)) (fun g => setc_in g hl))).monoR (fun x hx _ => c0 hx (by decide))
    · rw [List.getElem?_set_ne e] at hj
      exact (((h.pipes j q hj).keep hk (fun x hx => by have hx : col x = 6 + j ∨ col x = 5 := hx; omega)).mono (fun x hx _ => c0 hx (by omega))).monoR (fun x hx _ => c0 hx (by decide))
  · have h1 := hk.size
    rw [setc_hi hx]
    exact h.top x (by omega)
/-- one more pipe -/
theorem NetAt.more {w2 : World} {b : Nat} {pv' : Value} (h : NetAt w col nb gd delay room pv P fv F used s) (hb : Below w.heap.size w w') (hq : PAt NoR w' (fun q => w.heap.size ≤ q) b (.slice none 0 0) [] room)
    (hk : Keep (fun q => pv.ownBlock = some q) w' w2) (ho : w2.ownsRow 0 71 1 pv' (P.length + 1) (P.map pipeC ++ [.pointer (some ⟨b, 0, none⟩)])) (hn : ∀ g, pv'.ownBlock = some g → pv.ownBlock = some g ∨ w'.heap.size ≤ g) :
    NetAt (w2.setCell ⟨nb, 2, none⟩ pv') (setc (setc col w.heap.size w'.heap.size (6 + P.length)) w'.heap.size w2.heap.size 4) nb gd delay room pv' (P ++ [⟨b, .slice none 0 0, []⟩]) fv F used s := by
  have h1 := h.below hb
  have hs1 := hb.size
  have hs2 := hk.size
  have hk2 : Keep (fun q => q = nb) w2 (w2.setCell ⟨nb, 2, none⟩ pv') := (Keep.refl (fun q => q = nb) w2).setCell (p := ⟨nb, 2, none⟩) (.inl rfl) _
  have c0 : ∀ {x c : Nat}, col x = c → c ≠ 0 → setc (setc col w.heap.size w'.heap.size (6 + P.length)) w'.heap.size w2.heap.size 4 x = c := fun {x c} hx h0 => by
    have hl := h.lt (x := x) (by rw [hx]; exact h0)
    rw [setc_lo (by omega), setc_lo hl, hx]
  have n4 : ∀ x, col x ≠ 4 → ¬ pv.ownBlock = some x := fun x hx e => hx (h.c4 x e)
  have n1 : ∀ x, col x ≠ 1 → ¬ x = nb := fun x hx e => hx (by rw [e]; exact h.c1)
  have hpn : ∀ g, pv'.ownBlock = some g → ¬ g = nb := fun g hg e => by
    rcases hn g hg with x | x
    · exact n1 g (by rw [h.c4 g x]; decide) e
    · have := h.str.lt; omega
  refine ⟨(h1.str.keep hk (n4 _ (by rw [h.c1]; decide))).set' rfl, (h1.grp.keep hk (n4 _ (by rw [h.c2]; decide)) (n4 _ (by rw [h.c3]; decide))).keep hk2 (n1 _ (by rw [h.c2]; decide)) (n1 _ (by rw [h.c3]; decide)), ?_,
    ownsRow_keep (ownsRow_keep h1.fates hk (fun g hg => n4 _ (by rw [h.c5 g hg]; decide))) hk2 (fun g hg => n1 _ (by rw [h.c5 g hg]; decide)), fun j q hj => ?_, c0 h.c1 (by decide), c0 h.c2 (by decide), c0 h.c3 (by decide), fun x hx => ?_, fun x hx => c0 (h.c5 x hx) (by decide), fun x hx => ?_⟩
  · rw [List.length_append, List.map_append]
    exact ownsRow_keep ho hk2 (fun g hg => hpn g hg)
  · rcases Nat.lt_or_ge j P.length with g | g
    · rw [List.getElem?_append_left g] at hj
      exact ((((h1.pipes j q hj).keep hk (fun x hx => n4 _ (by have hx : col x = 6 + j ∨ col x = 5 := hx; omega))).keep hk2 (fun x hx => n1 _ (by have hx : col x = 6 + j ∨ col x = 5 := hx; omega))).mono (fun x hx _ => c0 hx (by omega))).monoR (fun x hx _ => c0 hx (by decide))
    · rw [List.getElem?_append_right g] at hj
      obtain rfl : j = P.length := by
        have := (List.getElem?_eq_some_iff.1 hj).1
        simp at this
        omega
      simp at hj
      subst hj
      have hq1 : PAt NoR w' (fun q => w.heap.size ≤ q ∧ q < w'.heap.size) b (.slice none 0 0) [] room := hq.mono (fun x hx hl => ⟨hx, hl⟩)
      refine (((hq1.keep hk (fun x hx e => ?_)).keep hk2 (fun x hx e => ?_)).mono (fun x hx _ => ?_)).monoR (fun x hx _ => hx.elim)
      · have h2 := hx.elim id (fun x => x.elim)
        have h3 := h.lt (x := x) (by rw [h.c4 x e]; decide)
        omega
      · have h2 := hx.elim id (fun x => x.elim)
        have := h.str.lt
        omega
      · rw [setc_lo hx.2, setc_in hx.1 hx.2]
  · rcases hn x hx with g | g
    · exact c0 (h.c4 x g) (by decide)
    · exact setc_in g (ho.lt x hx).2
  · have h5 : w2.heap.size ≤ x := by simpa using hx
    rw [setc_hi h5, setc_hi (by omega)]
    exact h.top x (by omega)
end
end
section
open Go.RowKit
set_option linter.unusedVariables false
set_option linter.unusedSimpArgs false

theorem blk5' {w : World} {b : Nat} {v0 v1 v2 v3 v4 : Value} {T : TypeId} (h : Blk w b #[v0, v1, v2, v3, v4] T) : w.cell? ⟨b, 0, none⟩ = some v0 ∧ w.cell? ⟨b, 1, none⟩ = some v1 ∧ w.cell? ⟨b, 2, none⟩ = some v2 ∧ w.cell? ⟨b, 3, none⟩ = some v3 ∧ w.cell? ⟨b, 4, none⟩ = some v4 :=
  ⟨h.cell 0 rfl, h.cell 1 rfl, h.cell 2 rfl, h.cell 3 rfl, h.cell 4 rfl⟩
theorem info_pipeP : (Try.prog.info? 71).map (fun i => (i.zero, i.size, i.bytes)) = some (some (.pointer none), 1, 8) := by kernel_rfl
theorem fates_one (l : List FD) : ∀ u ∈ l.flatMap fateCells, u.oneCell' = true := by
  intro u hu
  obtain ⟨x, -, hx⟩ := List.mem_flatMap.1 hu
  simp only [fateCells, List.mem_cons, List.not_mem_nil, or_false] at hx
  rcases hx with rfl | rfl <;> rfl
def col1 (nb b g lo : Nat) (x : Nat) : Nat := if x = nb then 1 else if x = b then 2 else if x = g then 3 else if lo ≤ x ∧ x < nb then 5 else 0
/-- the net when it has been made, without pipes -/
theorem NetAt.first {w w1 w2 : World} {b g : Nat} {n : Nat} {j lv delay room : Int} {fv : Value} {F : List FD} (hg : GrpAt w1 b g n (List.replicate n one0) j lv) (hb : w.heap.size ≤ b) (hgg : w.heap.size ≤ g) (hb1 : Below w.heap.size w w1)
    (hf : w2.ownsRow w1.heap.size 39 2 fv F.length (F.flatMap fateCells)) (hb2 : Below w1.heap.size w1 w2) :
    NetAt (w2.alloc (.cells (netC b delay (.slice none 0 0) fv ((0 : Nat) : Int) stN0) 37)) (col1 w2.heap.size b g w1.heap.size) w2.heap.size ⟨b, g, n, List.replicate n one0, j, lv⟩ delay room (.slice none 0 0) [] fv F 0 stN0 := by
  have h1 := hg.str.lt
  have h2 := hg.ltg
  have h3 := hg.ne
  have h4 := hb2.size
  refine ⟨Blk.new w2 _ _, (hg.below hb2).below ((Below.refl _ w2).alloc (Nat.le_refl _) _), World.ownsRow_nil _ _ _ _, (ownsRow_base hf (Nat.zero_le _)).alloc _, fun i p hp => (by simp at hp), if_pos rfl, ?_, ?_, fun x hx => (by cases hx), fun x hx => ?_, fun x hx => ?_⟩
  · show (if b = w2.heap.size then 1 else if b = b then 2 else _) = 2
    rw [if_neg (by omega), if_pos rfl]
  · show (if g = w2.heap.size then 1 else if g = b then 2 else if g = g then 3 else _) = 3
    rw [if_neg (by omega), if_neg (by omega), if_pos rfl]
  · have h5 := hf.lt x hx
    show (if x = w2.heap.size then 1 else if x = b then 2 else if x = g then 3 else if w1.heap.size ≤ x ∧ x < w2.heap.size then 5 else 0) = 5
    rw [if_neg (by omega), if_neg (by omega), if_neg (by omega), if_pos h5]
  · have h5 : w2.heap.size + 1 ≤ x := by simpa using hx
    show (if x = w2.heap.size then 1 else if x = b then 2 else if x = g then 3 else if w1.heap.size ≤ x ∧ x < w2.heap.size then 5 else 0) = 0
    rw [if_neg (by omega), if_neg (by omega), if_neg (by omega), if_neg (by omega)]
structure CfgOk (rc delay room j lv : Int) : Prop where
  rc : 1 ≤ rc ∧ rc ≤ 64
  delay : 0 ≤ delay ∧ delay ≤ 64
  room : 1 ≤ room ∧ room ≤ 256
  j : 0 ≤ j ∧ j ≤ 64
  lv : 0 ≤ lv ∧ lv ≤ 64
def newPipes (P : List PD) : Prop := ∀ p ∈ P, p.l = []
structure NewNet (w w' : World) (nb n : Nat) (delay room j lv : Int) (F : List FD) : Prop where
  ex : ∃ col gb gg pv P fv, NetAt w' col nb ⟨gb, gg, n, List.replicate n one0, j, lv⟩ delay room pv P fv F 0 stN0 ∧ P.length = n + 1 ∧ newPipes P ∧ (∀ x, col x ≠ 0 → w.heap.size ≤ x)
  bel : Below w.heap.size w w'
set_option maxRecDepth 100000 in
set_option maxHeartbeats 4000000 in
theorem netNew_ok (n : Nat) (delay room j lv : Int) (A : Option Addr) (cf : Nat) (F : List FD) (w : World) (h : CfgOk n delay room j lv) (hx : Reads w 2 (.slice A F.length cf) F.length (F.flatMap fateCells)) (hF : F.length ≤ 1000000) :
    Calls Try.prog 8 #[.agg #[.int .i64 n, .int .i64 delay, .int .i64 room, .int .i64 j, .int .i64 lv], .slice A F.length cf] w fun e w' => ∃ nb, e = .returned (.tuple #[.pointer (some ⟨nb, 0, none⟩), .int .i64 0]) ∧ NewNet w w' nb n delay room j lv F := by
  obtain ⟨⟨r1, r2⟩, ⟨d1, d2⟩, ⟨m1, m2⟩, hj, hl⟩ := h
  obtain ⟨i0, hi0, hz0, hz1, hz2⟩ := info_parts info_pipeP
  have HI0 := Lib.hid hi0
  have HZ0 := Lib.hid hz0
  have HZ1 := Lib.hid hz1
  have HZ2 := Lib.hid hz2
  have hb0 : Below w.heap.size w (w.alloc (.cells #[.int .i64 n, .int .i64 delay, .int .i64 room, .int .i64 j, .int .i64 lv] 30)) := (Below.refl _ w).alloc (Nat.le_refl _) _
  have HB0 := Lib.hid hb0
  have HX := Lib.hid (hx.below hb0)
  have HC := Lib.hid (Blk.new w #[.int .i64 n, .int .i64 delay, .int .i64 room, .int .i64 j, .int .i64 lv] 30)
  have HGN := Lib.hid (fun w => new_yes n j lv w ⟨by omega, by omega, hj.1, hj.2, hl.1, hl.2⟩)
  have HCL := Lib.hid (fun (w : World) (hx : Reads w 2 (.slice A F.length cf) F.length (F.flatMap fateCells)) => clone_fate (.slice A F.length cf) F.length (F.flatMap fateCells) w hx (by omega) (fates_one F))
  have HPN := Lib.hid (fun w => new_ok (R := NoR) room w m1 m2)
  have HZW : Hid (w.heap.size < (w.alloc (.cells #[.int .i64 n, .int .i64 delay, .int .i64 room, .int .i64 j, .int .i64 lv] 30)).heap.size) := by show _ < _; simp
  obtain ⟨y0, y1, y2, y3, y4⟩ := blk5' HC.out
  obtain ⟨k, hk⟩ : ∃ k, k = F.length := ⟨_, rfl⟩
  have HK := Lib.hid hk
  rw [← hk] at HX HCL ⊢
  clear hx hb0 hi0 hz0 hz1 hz2 hj hl hk hF
  go_enter Try.func8, Try.ntmps8
  go_wp2_with fail
  generalize w.alloc (.cells #[.int .i64 n, .int .i64 delay, .int .i64 room, .int .i64 j, .int .i64 lv] 30) = wz at *
  refine (HGN.out wz).mono ?_
  rintro e w1 ⟨gb, gg, rfl, hgr, hgb, hgg, hb1⟩
  have HGR := Lib.hid hgr
  have HGB := Lib.hid hgb
  have HGG := Lib.hid hgg
  have HB1 := Lib.hid hb1
  have HC1 := Lib.hid (HC.out.below hb1)
  have HX1 := Lib.hid (HX.out.below hb1)
  clear hgr hgb hgg hb1 y0 y1 y2 y3 y4
  obtain ⟨y0, y1, y2, y3, y4⟩ := blk5' HC1.out
  go_wp2_with fail
  go_region_held3 (fun w' => w'.cell? ⟨w.heap.size, 1, none⟩ = some (.int .i64 delay)) (first | exact y1 | exact e1 | exact e2)
    (first
      | (go_at_call 23; refine (HCL.out _ (HX1.out.drewN 1)).mono ?_; rintro e w2 ⟨A2, cc, rfl, ho2, hb2, -⟩; have e1 := (blk5' ((HC1.out.drewN 1).below hb2)).2.1; have e2 := (blk5' (((HC1.out.drewN 1).below hb2).below ((Below.refl _ w2).alloc (Nat.le_refl _) (.cells #[.pointer (some ⟨gb, 0, none⟩), .int .i64 delay, .slice none 0 0, .slice A2 k cc, .int .i64 0, .int .i64 0, .int .i64 0, .int .i64 0, .int .i64 0, .int .i64 0, .int .i64 0] 37)))).2.1; have HO2 := Lib.hid ho2; have HB2 := Lib.hid hb2; clear ho2 hb2))
  clear y0 y1 y2 y3 y4 e1 e2
  have hbl2 : Below w1.heap.size w1 w2 := (below_drewN (Below.refl w1.heap.size w1) 1).trans HB2.out
  have hfirst := NetAt.first (w := wz) (delay := delay) (room := room) (fv := .slice A2 k cc) (F := F) HGR.out HGB.out HGG.out HB1.out (by rw [← HK.out]; exact HO2.out) hbl2
  have hwz : w.heap.size < wz.heap.size := HZW.out
  have hz2 : wz.heap.size ≤ w2.heap.size := Nat.le_trans HB1.out.size hbl2.size
  have hgb2 : gb < w2.heap.size := Nat.lt_of_lt_of_le HGR.out.str.lt hbl2.size
  have HN0 : Hid (NetAt (w2.alloc (.cells #[.pointer (some ⟨gb, 0, none⟩), .int .i64 delay, .slice none 0 0, .slice A2 k cc, .int .i64 0, .int .i64 0, .int .i64 0, .int .i64 0, .int .i64 0, .int .i64 0, .int .i64 0] 37)) (col1 w2.heap.size gb gg w1.heap.size) w2.heap.size ⟨gb, gg, n, List.replicate n one0, j, lv⟩ delay room (.slice none 0 0) [] (.slice A2 k cc) F 0 stN0) := hfirst
  have hcol0 : ∀ x, col1 w2.heap.size gb gg w1.heap.size x ≠ 0 → w.heap.size < x := by
    intro x hx
    unfold col1 at hx
    have h1 := HGB.out
    have h2 := HGG.out
    have h3 := HB1.out.size
    by_cases a1 : x = w2.heap.size
    · omega
    · by_cases a2 : x = gb
      · omega
      · by_cases a3 : x = gg
        · omega
        · by_cases a4 : w1.heap.size ≤ x ∧ x < w2.heap.size
          · omega
          · rw [if_neg a1, if_neg a2, if_neg a3, if_neg a4] at hx
            exact absurd rfl hx
  have HCL0 := Lib.hid hcol0
  have HBB0 : Hid (Below w.heap.size w (w2.alloc (.cells #[.pointer (some ⟨gb, 0, none⟩), .int .i64 delay, .slice none 0 0, .slice A2 k cc, .int .i64 0, .int .i64 0, .int .i64 0, .int .i64 0, .int .i64 0, .int .i64 0, .int .i64 0] 37))) := (bmore (bmore HB0.out HB1.out HB0.out.size) hbl2 (Nat.le_trans HB0.out.size HB1.out.size)).alloc (by omega) _
  have HCB0 : Hid (Blk (w2.alloc (.cells #[.pointer (some ⟨gb, 0, none⟩), .int .i64 delay, .slice none 0 0, .slice A2 k cc, .int .i64 0, .int .i64 0, .int .i64 0, .int .i64 0, .int .i64 0, .int .i64 0, .int .i64 0] 37)) w.heap.size #[.int .i64 n, .int .i64 delay, .int .i64 room, .int .i64 j, .int .i64 lv] 30) := ((HC1.out.below hbl2)).alloc _
  have hcb := blk5' HCB0.out
  clear hfirst hcol0 hbl2 hwz hz2 hgb2
  obtain ⟨y0, y1, y2, y3, y4⟩ := hcb
  generalize w2.alloc (.cells #[.pointer (some ⟨gb, 0, none⟩), .int .i64 delay, .slice none 0 0, .slice A2 k cc, .int .i64 0, .int .i64 0, .int .i64 0, .int .i64 0, .int .i64 0, .int .i64 0, .int .i64 0] 37) = w3 at *
  generalize col1 w2.heap.size gb gg w1.heap.size = col0 at *
  generalize w2.heap.size = nb at *
  clear HO2 HB2 HGR HGB HGG HB1 HC1 HX1 HX HC HB0 HZW
  go_wp2_with fail
  go_loopw [9, 10, 43] (fun _ _ i wr => ∃ m : Nat, m ≤ n + 1 ∧ i = .int .i64 m ∧ ∃ pv P col, Hid (NetAt wr col nb ⟨gb, gg, n, List.replicate n one0, j, lv⟩ delay room pv P (.slice A2 k cc) F 0 stN0) ∧ Hid (P.length = m) ∧ Hid (newPipes P) ∧ Hid (∀ x, col x ≠ 0 → w.heap.size < x) ∧ Hid (Below w.heap.size w wr) ∧ Hid (Blk wr w.heap.size #[.int .i64 n, .int .i64 delay, .int .i64 room, .int .i64 j, .int .i64 lv] 30)) (fun _ _ i _ => n + 1 - (intOf i).toNat)
  case atStart => exact ⟨0, by omega, rfl, _, [], col0, HN0, rfl, fun p hp => (by cases hp), HCL0, HBB0, HCB0⟩
  case round =>
    obtain ⟨m, hm, rfl, pv, P, col, HN, HPL, HNP, HCO, HBB, HCB⟩ := hrel
    by_cases hlt : m < n + 1
    · have i1 : (0 : Int) ≤ (m : Int) := by omega
      have i2 : (m : Int) < (n : Int) + 1 := by omega
      obtain ⟨y0, y1, y2, y3, y4⟩ := blk5' HCB.out
      go_wp2_with fail
      refine (HPN.out wr).mono ?_
      rintro e w4 ⟨b, rfl, hp4, hb4⟩
      have HP4 := Lib.hid hp4
      have HB4 := Lib.hid hb4
      have HN4 := Lib.hid (HN.out.below hb4)
      obtain ⟨pA, pc, rfl⟩ := ownsRow_slice HN.out.row
      obtain ⟨n0, n1, n2, -⟩ := blk11 HN4.out.str
      have hpl : P.length ≤ 1000 := by have := HPL.out; omega
      clear hp4 hb4 y0 y1 y2 y3 y4
      go_wp2_with (at_builtin; refine wpList_app1 rfl _ _ 33 rfl 0 71 i0 (.pointer none) 1 8 Try.underlying33 HI0.out HZ0.out HZ1.out HZ2.out rfl _ P.length _ rfl HN4.out.row #[.pointer (some ⟨b, 0, none⟩)] 1 rfl rfl (by intro u hu; simp at hu; subst hu; rfl) (by omega) (by omega) (Nat.zero_le _) ?_; rintro A5 c5 w5 hown5 hk5 hn5 -; have HO5 := Lib.hid hown5; have HK5 := Lib.hid hk5; have HN5 := Lib.hid hn5; have HS5 := Lib.hid (HN4.out.str.keep hk5 (fun e => by have h1 := HN4.out.c4 nb e; have h2 := HN4.out.c1; omega)); have f2 := HS5.out.frozen 2; have q2 := (blk11 HS5.out).2.2.1; clear hown5 hk5 hn5)
      go_roundw
      case rel =>
        have hmore := HN.out.more HB4.out HP4.out HK5.out HO5.out HN5.out
        have hs4 := HB4.out.size
        have hs5 := HK5.out.size
        have hco : ∀ x, setc (setc col wr.heap.size w4.heap.size (6 + P.length)) w4.heap.size w5.heap.size 4 x ≠ 0 → w.heap.size < x := by
          intro x hx
          have hwl := HCB.out.lt
          by_cases a1 : w4.heap.size ≤ x ∧ x < w5.heap.size
          · omega
          · by_cases a2 : wr.heap.size ≤ x ∧ x < w4.heap.size
            · omega
            · unfold setc at hx
              rw [if_neg a1, if_neg a2] at hx
              exact HCO.out x hx
        have hnb : w.heap.size < nb := HCO.out nb (by rw [HN.out.c1]; decide)
        have hkb : Keep (fun q => q = nb) w5 (w5.setCell ⟨nb, 2, none⟩ (.slice A5 (P.length + 1) c5)) := (Keep.refl (fun q => q = nb) w5).setCell (p := ⟨nb, 2, none⟩) (.inl rfl) _
        have hown : ∀ q, (Value.slice pA P.length pc).ownBlock = some q → w.heap.size < q := fun q e => HCO.out q (by rw [HN.out.c4 q e]; decide)
        have hbb : Below w.heap.size w (w5.setCell ⟨nb, 2, none⟩ (.slice A5 (P.length + 1) c5)) :=
          bkeep (bkeep (bmore HBB.out HB4.out HBB.out.size) HK5.out (Nat.le_refl _) (fun q e => Nat.le_of_lt (hown q e))) hkb (Nat.le_refl _) (fun q e => by rw [e]; omega)
        have hcb : Blk (w5.setCell ⟨nb, 2, none⟩ (.slice A5 (P.length + 1) c5)) w.heap.size #[.int .i64 n, .int .i64 delay, .int .i64 room, .int .i64 j, .int .i64 lv] 30 :=
          ((HCB.out.below HB4.out).keep HK5.out (fun e => by have := hown _ e; omega)).keep hkb (fun e => by omega)
        exact ⟨m + 1, by omega, by go_num, _, _, _, hmore, by show _ = _; rw [List.length_append, HPL.out]; rfl, fun p hp => by
          rcases List.mem_append.1 hp with x | x
          · exact HNP.out p x
          · simp at x; subst x; rfl, hco, hbb, hcb⟩
      case measure => simp [intOf]; omega
    · obtain rfl : m = n + 1 := by omega
      obtain ⟨y0, y1, y2, y3, y4⟩ := blk5' HCB.out
      have i1 : ¬ ((n + 1 : Nat) : Int) < (n : Int) + 1 := by omega
      go_wp2
      refine bodyPost_ret (v := .tuple #[.pointer (some ⟨nb, 0, none⟩), .int .i64 0]) (by simp [results, Try.results8, go_sem]) rfl ?_
      exact ⟨nb, rfl, ⟨col, gb, gg, pv, P, _, HN.out, HPL.out, HNP.out, fun x hx => Nat.le_of_lt (HCO.out x hx)⟩, HBB.out⟩
set_option maxRecDepth 100000 in
set_option maxHeartbeats 4000000 in
theorem netNew_no (rc delay room j lv : Int) (w : World) (h : ¬ CfgOk rc delay room j lv) :
    Calls Try.prog 8 #[.agg #[.int .i64 rc, .int .i64 delay, .int .i64 room, .int .i64 j, .int .i64 lv], .slice none 0 0] w fun e w' => e = .returned (.tuple #[.pointer none, .int .i64 11]) ∧ Below w.heap.size w w' := by
  have hb0 : Below w.heap.size w (w.alloc (.cells #[.int .i64 rc, .int .i64 delay, .int .i64 room, .int .i64 j, .int .i64 lv] 30)) := (Below.refl _ w).alloc (Nat.le_refl _) _
  have HB0 := Lib.hid hb0
  have HC := Lib.hid (Blk.new w #[.int .i64 rc, .int .i64 delay, .int .i64 room, .int .i64 j, .int .i64 lv] 30)
  obtain ⟨y0, y1, y2, y3, y4⟩ := blk5' HC.out
  clear hb0
  by_cases hg : GrpOk rc j lv
  · have HGN := Lib.hid (fun w => (by
      obtain ⟨m, rfl⟩ : ∃ m : Nat, rc = m := ⟨rc.toNat, by have := hg.1; omega⟩
      exact (new_yes m j lv w hg).mono (fun e w' h => by obtain ⟨b, g, h1, -, -, -, h2⟩ := h; exact ⟨b, g, h1, h2⟩) : Calls Try.prog 22 #[.int .i64 rc, .int .i64 j, .int .i64 lv] w fun e w' => ∃ b g, e = .returned (.tuple #[.pointer (some ⟨b, 0, none⟩), .int .i64 0]) ∧ Below w.heap.size w w'))
    have hr := hg.1
    have hr2 := hg.2.1
    have hc : delay < 0 ∨ (0 ≤ delay ∧ 64 < delay) ∨ (0 ≤ delay ∧ delay ≤ 64 ∧ (room < 1 ∨ 256 < room)) := by
      rcases (by omega : delay < 0 ∨ (0 ≤ delay ∧ 64 < delay) ∨ (0 ≤ delay ∧ delay ≤ 64)) with g | g | g
      · exact .inl g
      · exact .inr (.inl g)
      · refine .inr (.inr ⟨g.1, g.2, ?_⟩)
        rcases (by omega : room < 1 ∨ 256 < room ∨ (1 ≤ room ∧ room ≤ 256)) with x | x | x
        · exact .inl x
        · exact .inr x
        · exact absurd (⟨⟨hg.1, hg.2.1⟩, g, x, ⟨hg.2.2.1, hg.2.2.2.1⟩, ⟨hg.2.2.2.2.1, hg.2.2.2.2.2⟩⟩ : CfgOk rc delay room j lv) h
    clear h hg
    rcases hc with g | ⟨g, g'⟩ | ⟨g, g', g2⟩
    case inr.inr =>
      have HPN := Lib.hid (fun w => pnew_no room w g2)
      have HCL := Lib.hid (fun (w : World) => clone_fate (.slice none 0 0) 0 [] w (Reads.nil w 2) (by omega) (by intro u hu; cases hu))
      clear g2
      go_enter Try.func8, Try.ntmps8
      go_wp2_with fail
      generalize w.alloc (.cells #[.int .i64 rc, .int .i64 delay, .int .i64 room, .int .i64 j, .int .i64 lv] 30) = wz at *
      refine (HGN.out wz).mono ?_
      rintro e w1 ⟨gb, gg, rfl, hb1⟩
      have HB1 := Lib.hid hb1
      have HC1 := Lib.hid (HC.out.below hb1)
      clear y0 y1 y2 y3 y4 hb1
      obtain ⟨y0, y1, y2, y3, y4⟩ := blk5' HC1.out
      go_wp2_with fail
      go_region_held3 (fun w' => w'.cell? ⟨w.heap.size, 1, none⟩ = some (.int .i64 delay)) (first | exact y1 | exact e1 | exact e2)
        (first
          | (go_at_call 23; refine (HCL.out _).mono ?_; rintro e w2 ⟨A2, cc, rfl, -, hb2, -⟩; have e1 := (blk5' ((HC1.out.drewN 1).below hb2)).2.1; have e2 := (blk5' (((HC1.out.drewN 1).below hb2).below ((Below.refl _ w2).alloc (Nat.le_refl _) (.cells #[.pointer (some ⟨gb, 0, none⟩), .int .i64 delay, .slice none 0 0, .slice A2 0 cc, .int .i64 0, .int .i64 0, .int .i64 0, .int .i64 0, .int .i64 0, .int .i64 0, .int .i64 0] 37)))).2.1; have HB2 := Lib.hid hb2; clear hb2))
      clear y0 y1 y2 y3 y4 e1 e2
      have hbl2 : Below w1.heap.size w1 w2 := (below_drewN (Below.refl w1.heap.size w1) 1).trans HB2.out
      have hbb : Below w.heap.size w (w2.alloc (.cells #[.pointer (some ⟨gb, 0, none⟩), .int .i64 delay, .slice none 0 0, .slice A2 0 cc, .int .i64 0, .int .i64 0, .int .i64 0, .int .i64 0, .int .i64 0, .int .i64 0, .int .i64 0] 37)) :=
        (bmore (bmore HB0.out HB1.out HB0.out.size) hbl2 (Nat.le_trans HB0.out.size HB1.out.size)).alloc (by have h1 := HB0.out.size; have h2 := HB1.out.size; have h3 := hbl2.size; omega) _
      have HBB := Lib.hid hbb
      have HCB : Hid (Blk (w2.alloc (.cells #[.pointer (some ⟨gb, 0, none⟩), .int .i64 delay, .slice none 0 0, .slice A2 0 cc, .int .i64 0, .int .i64 0, .int .i64 0, .int .i64 0, .int .i64 0, .int .i64 0, .int .i64 0] 37)) w.heap.size #[.int .i64 rc, .int .i64 delay, .int .i64 room, .int .i64 j, .int .i64 lv] 30) := (HC1.out.below hbl2).alloc _
      clear hbl2 hbb HB2
      generalize w2.alloc (.cells #[.pointer (some ⟨gb, 0, none⟩), .int .i64 delay, .slice none 0 0, .slice A2 0 cc, .int .i64 0, .int .i64 0, .int .i64 0, .int .i64 0, .int .i64 0, .int .i64 0, .int .i64 0] 37) = w3 at *
      obtain ⟨y0, y1, y2, y3, y4⟩ := blk5' HCB.out
      go_wp2_with fail
      go_loopw [9, 10, 43] (fun _ _ i wr => i = .int .i64 0 ∧ Hid (w3 = wr)) (fun _ _ i _ => 0)
      case atStart => exact ⟨rfl, rfl⟩
      case round =>
        obtain ⟨rfl, HW⟩ := hrel
        have hw := HW.out
        subst hw
        clear HW
        have i1 : (0 : Int) < rc + 1 := by omega
        have i2 : (0 : Int) ≤ rc := by omega
        have i3 : IntKind.i64.wrap (rc + 1) = rc + 1 := IntWalk.i64_in _ (by omega)
        go_wp2_with fail
        refine (HPN.out w3).mono ?_
        rintro e w4 ⟨rfl, rfl⟩
        go_wp2
        exact bodyPost_ret (v := .tuple #[.pointer none, .int .i64 11]) (by simp [results, Try.results8, go_sem]) rfl ⟨rfl, HBB.out⟩
    all_goals
      go_enter Try.func8, Try.ntmps8
      go_wp2_with fail
      generalize w.alloc (.cells #[.int .i64 rc, .int .i64 delay, .int .i64 room, .int .i64 j, .int .i64 lv] 30) = wz at *
      refine (HGN.out wz).mono ?_
      rintro e w1 ⟨gb, gg, rfl, hb1⟩
      have HB1 := Lib.hid (bmore HB0.out hb1 HB0.out.size)
      have HC1 := Lib.hid (HC.out.below hb1)
      clear y0 y1 y2 y3 y4 hb1
      obtain ⟨y0, y1, y2, y3, y4⟩ := blk5' HC1.out
      go_wp2
      exact bodyPost_ret (v := .tuple #[.pointer none, .int .i64 11]) (by simp [results, Try.results8, go_sem]) rfl ⟨rfl, HB1.out⟩
  · have HGN := Lib.hid (fun w => new_no rc j lv w hg)
    clear hg h
    go_enter Try.func8, Try.ntmps8
    go_wp2_with fail
    generalize w.alloc (.cells #[.int .i64 rc, .int .i64 delay, .int .i64 room, .int .i64 j, .int .i64 lv] 30) = wz at *
    refine (HGN.out wz).mono ?_
    rintro e w1 ⟨rfl, rfl⟩
    go_wp2
    exact bodyPost_ret (v := .tuple #[.pointer none, .int .i64 11]) (by simp [results, Try.results8, go_sem]) rfl ⟨rfl, HB0.out⟩
end
end Go.Proofs.Ytlodiibmofeikaa
