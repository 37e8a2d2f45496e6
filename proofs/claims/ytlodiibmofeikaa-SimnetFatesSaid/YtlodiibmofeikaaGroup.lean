/- group: bits.Mul at 1; slices.Repeat of one; New. -/
import Derived.Test.YtlodiibmofeikaaCopy
import Derived.Test.YtlodiibmofeikaaApp
import Derived.Test.YtlodiibmofeikaaElem
import Derived.Laws.MakeOwn
import Derived.Deep.RegionHeld3
namespace Go.Proofs.Ytlodiibmofeikaa
open Go.RowKit
set_option linter.unusedVariables false
set_option linter.unusedSimpArgs false

/-- a receiver -/
structure One where
  level : Int
  next : Int
  due : Int
  asked : Int
def oneCells (o : One) : List Value := [.int .i64 o.level, .int .i64 o.next, .int .i64 o.due, .int .i64 o.asked]
theorem oneCells_len (o : One) : (oneCells o).length = 4 := rfl
def one0 : One := ⟨-1, -1, 0, 0⟩
def oneZ : One := ⟨0, 0, 0, 0⟩
theorem info_one : (Try.prog.info? 76).map (fun i => (i.zero, i.size, i.bytes)) = some (some (.agg #[.int .i64 0, .int .i64 0, .int .i64 0, .int .i64 0]), 4, 32) := by kernel_rfl
theorem size_one : (Try.prog.info? 76).map (·.size) = some 4 := by kernel_rfl

theorem Blk.cellsAt {w : World} {g : Nat} {cs : Array Value} {T : TypeId} (h : Blk w g cs T) (o : Nat) (news : List Value) (hn : ∀ j v, news[j]? = some v → cs[o + j]? = some v) :
    ∀ j v, news[j]? = some v → w.cell? ((⟨g, o, none⟩ : Addr).add j) = some v := fun j v hj => by
  have e : (⟨g, o, none⟩ : Addr).add j = ⟨g, o + j, none⟩ := by unfold Addr.add; split <;> simp_all
  rw [e]
  exact h.cell (o + j) (hn j v hj)

set_option maxRecDepth 100000 in
theorem mul64_one (n : Nat) (w : World) (h : n ≤ 64) :
    Calls Try.prog 60 #[.int .u64 1, .int .u64 n] w fun e w' => e = .returned (.tuple #[.int .u64 0, .int .u64 n]) ∧ w = w' := by
  have e1 : bits .and .u64 (n : Int) 4294967295 = (n : Int) := by
    have : ∀ m : Fin 65, bits .and .u64 ((m : Nat) : Int) 4294967295 = ((m : Nat) : Int) := by decide
    exact this ⟨n, by omega⟩
  have e2 : (n : Int) / 4294967296 = 0 := by omega
  have e3 : bits .and .u64 1 4294967295 = 1 := by decide
  have e4 : bits .and .u64 0 4294967295 = 0 := by decide
  have h0 : (0 : Int) ≤ (n : Int) := by omega
  go_enter Try.func60, Try.ntmps60
  go_wp2
  go_ret2
  exact ⟨rfl, rfl⟩
set_option maxRecDepth 100000 in
theorem mul_one (n : Nat) (w : World) (h : n ≤ 64) :
    Calls Try.prog 55 #[.int .u64 1, .int .u64 n] w fun e w' => e = .returned (.tuple #[.int .u64 0, .int .u64 n]) ∧ w = w' := by
  go_enter Try.func55, Try.ntmps55
  go_wp2_with fail
  refine (mul64_one n _ h).mono ?_
  rintro e w' ⟨rfl, rfl⟩
  go_wp2
  go_ret2
  exact ⟨rfl, rfl⟩

def repc (k : Nat) : List Value := (List.replicate k one0).flatMap oneCells
def zerc (k : Nat) : List Value := (List.replicate k oneZ).flatMap oneCells
theorem repc_len (k : Nat) : (repc k).length = k * 4 := by unfold repc; rw [flatMap_length oneCells_len, List.length_replicate]
theorem zerc_len (k : Nat) : (zerc k).length = k * 4 := by unfold zerc; rw [flatMap_length oneCells_len, List.length_replicate]
theorem repc_add (k m : Nat) : repc (k + m) = repc k ++ repc m := by unfold repc; rw [← List.replicate_append_replicate, List.flatMap_append]
theorem zerc_add (k m : Nat) : zerc (k + m) = zerc k ++ zerc m := by unfold zerc; rw [← List.replicate_append_replicate, List.flatMap_append]
theorem repc_splice (k m r : Nat) : splice (repc k ++ zerc (m + r)) (k * 4) (repc m) = repc (k + m) ++ zerc r := by
  unfold splice
  have h : (repc k ++ (zerc m ++ zerc r)).drop (k * 4 + m * 4) = zerc r := by rw [← List.append_assoc]; exact List.drop_left' (by simp [repc_len, zerc_len])
  rw [List.take_left' (repc_len k), zerc_add, repc_len, h, repc_add, List.append_assoc]
theorem repc_one (k : Nat) : ∀ v ∈ repc k, v.oneCell' = true := by
  intro v hv
  simp only [repc, List.mem_flatMap, List.mem_replicate] at hv
  obtain ⟨o, -, hv⟩ := hv
  simp [oneCells] at hv
  rcases hv with rfl | rfl | rfl | rfl <;> rfl
theorem made_zerc (n : Nat) : madeCells (Value.agg #[.int .i64 0, .int .i64 0, .int .i64 0, .int .i64 0]).cells (n * 4) = (zerc n).toArray := by
  apply Array.ext
  · rw [size_madeCells, List.size_toArray, zerc_len]
  · intro i h1 h2
    rw [size_madeCells] at h1
    have e : (madeCells (Value.agg #[.int .i64 0, .int .i64 0, .int .i64 0, .int .i64 0]).cells (n * 4))[i] = Value.int .i64 0 := by
      simp only [madeCells, Array.getElem_map, Array.getElem_range, Value.cells]
      have : i % 4 = 0 ∨ i % 4 = 1 ∨ i % 4 = 2 ∨ i % 4 = 3 := by omega
      show #[Value.int .i64 0, .int .i64 0, .int .i64 0, .int .i64 0][i % 4]! = _
      rcases this with h | h | h | h <;> rw [h] <;> rfl
    rw [e]
    have : ∀ v ∈ zerc n, v = Value.int .i64 0 := by
      intro v hv
      simp only [zerc, List.mem_flatMap, List.mem_replicate] at hv
      obtain ⟨o, ⟨-, rfl⟩, hv⟩ := hv
      simpa [oneCells, oneZ] using hv
    exact (this _ (by simp)).symm
set_option maxRecDepth 100000 in
set_option maxHeartbeats 400000 in
theorem repeat_any (g0 n : Nat) (w : World) (h : Blk w g0 (repc 1).toArray 76) (h1 : 1 ≤ n) (h2 : n ≤ 64) :
    Calls Try.prog 41 #[.slice (some ⟨g0, 0, none⟩) 1 1, .int .i64 n] w fun e w' => ∃ g, e = .returned (.slice (some ⟨g, 0, none⟩) n n) ∧ Blk w' g (repc n).toArray 76 ∧ w.heap.size ≤ g ∧ Below w.heap.size w w' := by
  obtain ⟨i0, hi, hz0, hz1, hz2⟩ := info_parts info_one
  have hmk : (Instr.makeSlice 77 (.int .i64 (n : Int)) (.int .i64 (n : Int))).run Try.prog w = .ok (.slice (some ⟨w.heap.size, 0, none⟩) n n) (w.alloc (.cells (zerc n).toArray 76)) := by
    have h := run_make (P := Try.prog) w 77 76 i0 _ Try.underlying77 hi hz0 .i64 .i64 (n : Int) (n : Int) (by omega) (by omega) (by rw [hz2]; omega) (by omega)
    rw [hz1, Int.toNat_natCast, made_zerc] at h
    exact h
  have HB := Lib.hid (Blk.new w (zerc n).toArray 76)
  have hg0 := h.lt
  have HX := Lib.hid (h.alloc (.cells (zerc n).toArray 76))
  have H0 := Lib.hid h
  have j0 : (0 : Int) ≤ (n : Int) := by omega
  have j1 : ¬ ((n : Int) < 0) := by omega
  clear h
  go_enter Try.func41, Try.ntmps41
  go_wp2_with fail
  refine (mul_one n _ h2).mono ?_
  rintro e w' ⟨rfl, rfl⟩
  have HC1 : Hid (Nat.min 1 n = 1) := Nat.min_eq_left h1
  have C2 := HX.out.cellsAt 0 (repc 1) (fun j v h => by simpa using h)
  have C3 : 0 + (repc 1).length ≤ (zerc n).toArray.size := by rw [repc_len, List.size_toArray, zerc_len]; omega
  have HC2 := Lib.hid C2
  have HC3 := Lib.hid C3
  have HB1 : Hid (Below w.heap.size w (w.alloc (.cells (zerc n).toArray 76))) := (Below.refl _ w).alloc (Nat.le_refl _) _
  clear C2 C3
  go_wp2_with (with_reducible refine wpList_copyN rfl (.tmp 31) (.tmp 32) _ _ rfl 76 4 Try.underlying77 size_one w.heap.size 0 n n 1 1 ⟨g0, 0, none⟩ rfl rfl (zerc n).toArray 76 HB.out 1 HC1.out (repc 1) (repc_len 1) HC2.out HC3.out (repc_one 1) ?_)
  intro w1 hB1 hk1
  have HB2 : Hid (Blk w1 w.heap.size (repc 1 ++ zerc (n - 1)).toArray 76) := by
    have e := repc_splice 0 1 (n - 1)
    rw [show 1 + (n - 1) = n by omega] at e
    have h : Blk w1 w.heap.size (splice (repc 0 ++ zerc n) (0 * 4) (repc 1)).toArray 76 := by rw [Nat.zero_mul]; exact hB1.out
    rw [e] at h
    exact h
  have HQ1 : Hid (Below w.heap.size w w1) := bkeep HB1.out hk1 (Nat.le_refl _) (fun k hk => by subst hk; exact Nat.le_refl _)
  clear hB1 hk1
  go_wp2
  go_loopw [8] (fun i wr => ∃ k : Nat, 1 ≤ k ∧ k ≤ n ∧ i = .int .i64 k ∧ Hid (Blk wr w.heap.size (repc k ++ zerc (n - k)).toArray 76) ∧ Hid (Below w.heap.size w wr)) (fun i _ => n - (intOf i).toNat)
  case atStart => exact ⟨1, by omega, h1, rfl, HB2, HQ1⟩
  case round =>
    obtain ⟨k, hk1, hk2, rfl, HBk, HQk⟩ := hrel
    by_cases hlt : k < n
    · have i1 : (0 : Int) ≤ (k : Int) := by omega
      have i2 : (k : Int) ≤ (n : Int) := by omega
      have i3 : (k : Int) < (n : Int) := by omega
      have i4 : ¬ (n = k) := by omega
      obtain ⟨m, hm⟩ : ∃ m, m = Nat.min k (n - k) := ⟨_, rfl⟩
      have hle : m ≤ n - k := by rw [hm]; exact Nat.min_le_right _ _
      obtain ⟨r, hr⟩ : ∃ r, n - k = m + r := ⟨n - k - m, by omega⟩
      have hm1 : 1 ≤ m := by rw [hm]; exact Nat.le_min.2 ⟨hk1, by omega⟩
      have hmk : m ≤ k := by rw [hm]; exact Nat.min_le_left _ _
      have hC2 := (HBk.out.drewN 1).cellsAt 0 (repc m) (fun j v h => by
        have hj : j < m * 4 := by rw [← repc_len]; exact (List.getElem?_eq_some_iff.1 h).1
        rw [Nat.zero_add, List.getElem?_toArray, List.getElem?_append_left (by rw [repc_len]; omega), show k = m + (k - m) by omega, repc_add, List.getElem?_append_left (by rw [repc_len]; omega)]
        exact h)
      have HC2 := Lib.hid hC2
      have HM := Lib.hid hm.symm
      have HR := Lib.hid hr
      have HC3 : Hid (k * 4 + (repc m).length ≤ (repc k ++ zerc (n - k)).toArray.size) := by
        show k * 4 + (repc m).length ≤ (repc k ++ zerc (n - k)).toArray.size
        rw [repc_len, List.size_toArray, List.length_append, repc_len, zerc_len, hr]; omega
      have hkm : k + m ≤ n := by omega
      have HKD : Hid (Keep (fun k => k = w.heap.size) wr wr.drew) := (Keep.refl _ _).drew
      clear hm hr hC2 hmk hle
      go_wp2_with fail
      have wk : IntKind.i64.wrap ((k : Int) + (m : Int)) = ((k + m : Nat) : Int) := by rw [IntWalk.i64_in _ (by omega)]; omega
      go_region_held3 (fun _ => True) (trivial)
        (first
          | (refine step_copyN rfl (.tmp 41) (.tmp 44) _ _ rfl 76 4 Try.underlying77 size_one w.heap.size (k * 4) (n - k) (n - k) k n ⟨w.heap.size, 0, none⟩ rfl rfl (repc k ++ zerc (n - k)).toArray 76 (HBk.out.drewN 1) m HM.out (repc m) (repc_len m) HC2.out HC3.out (repc_one m) ?_; intro w2 hB2 hk2))
      clear wk
      have HB3 : Hid (Blk w2 w.heap.size (repc (k + m) ++ zerc (n - (k + m))).toArray 76) := by
        have h := hB2.out
        rw [show (repc k ++ zerc (n - k)).toArray.toList = repc k ++ zerc (n - k) from rfl, HR.out, repc_splice] at h
        rw [show n - (k + m) = r by have := HR.out; omega]
        exact h
      have HQ3 : Hid (Below w.heap.size w w2) := bkeep HQk.out (HKD.out.trans hk2 (fun _ _ h => h)) (Nat.le_refl _) (fun k hk => by subst hk; exact Nat.le_refl _)
      clear hB2 hk2
      go_wp2
      go_roundw
      case rel => exact ⟨k + m, by omega, hkm, rfl, HB3, HQ3⟩
      case measure => simp [intOf]; omega
    · obtain rfl : k = n := by omega
      go_wp2
      go_ret
      refine ⟨w.heap.size, rfl, ?_, Nat.le_refl _, HQk.out⟩
      have h := HBk.out
      rw [Nat.sub_self, show zerc 0 = [] from rfl, List.append_nil] at h
      exact h
end Go.Proofs.Ytlodiibmofeikaa
