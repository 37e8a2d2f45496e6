/- ranges: a set behind some calls. -/
import Derived.Test.YtddoefkojlghnaaRangesStep2
import Derived.Test.YtddoefkojlghnaaRanges5
namespace Go.Proofs.Ytddoefkojlghnaa
open Go.RowKit
set_option linter.unusedVariables false
set_option linter.unusedSimpArgs false

def opCells (o : Int × Int × Int) : List Value := [.int .i64 o.1, .int .i64 o.2.1, .int .i64 o.2.2]
theorem opCells_len (o : Int × Int × Int) : (opCells o).length = 3 := rfl
theorem Reads.opd {w : World} {v : Value} {n : Nat} {l : List (Int × Int × Int)} (h : Reads w 3 v n (l.flatMap opCells)) {k : Nat} {x : Int × Int × Int} (hx : l[k]? = some x) : ∃ g o c, v = .slice (some ⟨g, o, none⟩) n c ∧ w.cell? ⟨g, o + k * 3, none⟩ = some (.int .i64 x.1) ∧ w.cell? ⟨g, o + k * 3 + 1, none⟩ = some (.int .i64 x.2.1) ∧ w.cell? ⟨g, o + k * 3 + 2, none⟩ = some (.int .i64 x.2.2) := by
  obtain ⟨g, p, c, he, hc⟩ := Reads.elem h opCells_len (by omega) hx
  exact ⟨g, p, c, he, hc 0 _ rfl, hc 1 _ rfl, hc 2 _ rfl⟩
/-- a set and the list of truths beside it, made since a world of B blocks -/
structure PlS (w : World) (B b : Nat) (v V : Value) (l : List (Int × Int)) : Prop where
  at_ : SetAt w b v l (tot l)
  good : Good (-1) l
  rd : Reads w 1 V 16384 (bitV 16384 (cov l))
  ap : ∀ g, V.ownBlock = some g → g ≠ b ∧ v.ownBlock ≠ some g
  bb : B ≤ b
  vb : ∀ g, v.ownBlock = some g → B ≤ g
  VB : ∀ g, V.ownBlock = some g → B ≤ g
theorem PlS.below {w w' : World} {B b : Nat} {v V : Value} {l : List (Int × Int)} (h : PlS w B b v V l) (hb : Below w.heap.size w w') : PlS w' B b v V l :=
  ⟨h.at_.below hb, h.good, h.rd.keep (Keep.none hb) (fun _ _ _ => id), h.ap, h.bb, h.vb, h.VB⟩
theorem bitV_congr {N : Nat} {f g : Int → Bool} (h : ∀ n, f n = g n) : bitV N f = bitV N g := by rw [show f = g from funext h]
theorem PlS.step {w w0 w' : World} {e : Ending} {b : Nat} {v V : Value} {l : List (Int × Int)} (h : PlS w w0.heap.size b v V l) (hb : Below w0.heap.size w0 w) (hs : StepR w w' e b v l V (cov l)) :
    ∃ v' l' A k, e = .returned (.tuple #[.slice A 16384 k, .bool true]) ∧ Hid (PlS w' w0.heap.size b v' (.slice A 16384 k) l') ∧ Hid (Below w0.heap.size w0 w') := by
  obtain ⟨⟨v', l', V', f', ok, rfl, g1, h1, h2, h3, h4, h5, h6⟩, hk⟩ := hs
  obtain ⟨rfl, hf⟩ := h4 (fun _ => rfl)
  rw [bitV_congr hf] at h2
  obtain ⟨A, k, rfl, -⟩ := h2.val
  have hz := hb.size
  exact ⟨v', l', A, k, rfl, ⟨h1, g1, h2, h3, h.bb, fun g hg => (h5 g hg).elim (h.vb g) (fun h => by omega), fun g hg => (h6 g hg).elim (h.VB g) (fun h => by omega)⟩,
    bkeep hb hk (Nat.le_refl _) (fun k hk => hk.elim (fun e => e ▸ h.bb) (h.vb k))⟩
theorem made_bits (n : Nat) : (madeCells (Value.int .i64 0).cells (n * 1)).toList = bitV n (fun _ => false) := by
  unfold madeCells bitV
  rw [Nat.mul_one]
  apply List.ext_getElem
  · simp
  · intro i h1 h2
    simp [Value.cells, b01]
    rw [Nat.mod_one]; rfl
theorem make_bits (w : World) : ∃ w', (Instr.makeSlice 33 (.int .i64 16384) (.int .i64 16384)).run Try.prog w = .ok (.slice (some ⟨w.heap.size, 0, none⟩) 16384 16384) w' ∧ Hid (w'.ownsRow w.heap.size 3 1 (.slice (some ⟨w.heap.size, 0, none⟩) 16384 16384) 16384 (bitV 16384 (cov []))) ∧ Hid (Below w.heap.size w w') := by
  obtain ⟨i0, hi, hz0, hz1, hz2⟩ := info_parts info_int
  have h := run_make (P := Try.prog) w 33 3 i0 _ Try.underlying33 hi hz0 .i64 .i64 (16384 : Int) (16384 : Int) (by omega) (by omega) (by rw [hz2]; omega) (by omega)
  refine ⟨_, h, ?_, (Below.refl _ w).alloc (Nat.le_refl _) _⟩
  have ho := World.ownsRow_lit (base := w.heap.size) (e := 3) (size := 1) w (madeCells (Value.int .i64 0).cells (16384 * 1)) 16384 (Nat.le_refl _) (by decide) (size_madeCells _ _)
  rw [made_bits] at ho
  rw [hz1]
  exact ho
set_option maxRecDepth 100000 in
set_option maxHeartbeats 4000000 in
theorem played_any (v : Value) (l : List (Int × Int × Int)) (w : World) (h : Reads w 3 v l.length (l.flatMap opCells)) (hn : l.length ≤ 100000) :
    Calls Try.prog 16 #[v] w fun e w' => ∃ b v0 L A k, e = .returned (.tuple #[.pointer (some ⟨b, 0, none⟩), .slice A 16384 k]) ∧ Hid (PlS w' w.heap.size b v0 (.slice A 16384 k) L) ∧ Hid (Below w.heap.size w w') := by
  have HNW := Lib.hid (new_any w)
  have HST := Lib.hid @step_any
  have H := Lib.hid h
  obtain ⟨A0, k0, rfl, -⟩ := h.val
  obtain ⟨n, hnn⟩ : ∃ n, n = l.length := ⟨_, rfl⟩
  have HN := Lib.hid hnn
  rw [← hnn] at hn H ⊢
  clear h hnn
  go_enter Try.func16, Try.ntmps16
  go_wp2_with fail
  refine HNW.out.mono ?_
  rintro e w1 ⟨rfl, hs1, hb1⟩
  have HS1 := Lib.hid hs1
  have HB1 := Lib.hid hb1
  clear hs1 hb1
  obtain ⟨w2, hmk, HO2, HB2⟩ := make_bits w1
  have HS2 : Hid (PlS w2 w.heap.size w.heap.size (.slice none 0 0) (.slice (some ⟨w1.heap.size, 0, none⟩) 16384 16384) []) := ⟨HS1.out.below HB2.out, trivial, Reads.of_owns HO2.out, (fun g hg => by cases hg; exact ⟨Nat.ne_of_gt HS1.out.str.lt, fun e => by cases e⟩), Nat.le_refl _, (fun g hg => by cases hg), (fun g hg => by cases hg; exact HB1.out.size)⟩
  have HQ2 : Hid (Below w.heap.size w w2) := bmore HB1.out HB2.out HB1.out.size
  obtain ⟨g1, hg1⟩ : ∃ g1, g1 = w1.heap.size := ⟨_, rfl⟩
  rw [← hg1] at hmk HS2
  clear hg1
  go_wp2_with fail
  go_loopw [5, 16] (fun x i wr => ∃ (k : Nat) (v0 : Value) (L : List (Int × Int)) (A : Option Addr) (c : Nat), k ≤ n ∧ i = .int .i64 k ∧ x = .slice A 16384 c ∧ Hid (PlS wr w.heap.size w.heap.size v0 (.slice A 16384 c) L) ∧ Hid (Below w.heap.size w wr)) (fun _ i _ => n - (intOf i).toNat)
  case atStart => exact ⟨0, _, [], _, _, by omega, rfl, rfl, HS2, HQ2⟩
  case round =>
    obtain ⟨k, v0, L, A, c, hkn, rfl, rfl, HP, HQ⟩ := hrel
    by_cases hk : k < n
    · obtain ⟨x, hx⟩ : ∃ x, l[k]? = some x := ⟨_, List.getElem?_eq_getElem (by have := HN.out; omega)⟩
      have HL : Hid (Reads wr 3 (.slice A0 n k0) n (l.flatMap opCells)) := H.out.keep (Keep.none HQ.out) (fun _ _ _ => id)
      obtain ⟨g, o, cc, he, y0, y1, y2⟩ := HL.out.opd hx
      cases he
      have i1 : (0 : Int) ≤ (k : Int) := by omega
      have i2 : (k : Int) < (n : Int) := by omega
      obtain ⟨wz, hwz⟩ : ∃ wz, wz = wr.alloc (.cells #[.int .i64 x.1, .int .i64 x.2.1, .int .i64 x.2.2] 35) := ⟨_, rfl⟩
      have HBZ : Hid (Below wr.heap.size wr wz) := by show Below _ _ _; rw [hwz]; exact (Below.refl _ wr).alloc (Nat.le_refl _) _
      have HPZ := Lib.hid (HP.out.below HBZ.out)
      have HQZ : Hid (Below w.heap.size w wz) := bmore HQ.out HBZ.out HQ.out.size
      have HWZ := Lib.hid hwz
      have HSZ := Lib.hid (HST.out _ _ _ L (cov L) x.1 x.2.1 x.2.2 wz HPZ.out.at_ HPZ.out.good HPZ.out.rd HPZ.out.ap)
      clear hx hwz
      go_wp2_with fail
      rw [← HWZ.out]
      refine HSZ.out.mono ?_
      rintro e w5 h5
      obtain ⟨v5, L5, A5, c5, rfl, HP5, HQ5⟩ := HPZ.out.step HQZ.out h5
      clear h5
      go_wp2
      go_roundw
      case rel => exact ⟨k + 1, v5, L5, A5, c5, by omega, by go_num, rfl, HP5, HQ5⟩
      case measure => simp [intOf]; omega
    · obtain rfl : k = n := by omega
      have t1 : ¬ ((k : Int) < (k : Int)) := by omega
      go_wp2
      go_ret2
      exact ⟨_, v0, L, A, c, rfl, HP, HQ⟩
end Go.Proofs.Ytddoefkojlghnaa
