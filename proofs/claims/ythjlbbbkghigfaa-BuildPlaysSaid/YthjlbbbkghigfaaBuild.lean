/- build: a build in memory; New. -/
import Derived.Test.YthjlbbbkghigfaaStripe3
import Derived.Test.YthjlbbbkghigfaaRangesStr
import Derived.Test.YthjlbbbkghigfaaRanges11
import Derived.Test.YthjlbbbkghigfaaRgRef2
import Derived.Deep.RegionHeld3
namespace Go.Proofs.Ythjlbbbkghigfaa
open Go.RowKit
set_option linter.unusedVariables false
set_option linter.unusedSimpArgs false

structure Giv where
  block : Int
  fr : Int
  to : Int
  tick : Int
def givCells (g : Giv) : List Value := [.int .i64 g.block, .int .i64 g.fr, .int .i64 g.to, .int .i64 g.tick]
theorem givCells_len (g : Giv) : (givCells g).length = 4 := rfl
theorem info_giv : (Try.prog.info? 37).map (fun i => (i.zero, i.size, i.bytes)) = some (some (.agg #[.int .i64 0, .int .i64 0, .int .i64 0, .int .i64 0]), 4, 32) := by kernel_rfl
theorem info_u8 : (Try.prog.info? 5).map (fun i => (i.zero, i.size, i.bytes)) = some (some (.int .u8 0), 1, 1) := by kernel_rfl
/-- a build: where it lies, and what it is -/
structure BuS where
  b : Nat
  pb : Nat
  hb : Nat
  s : Nat
  k : Nat
  n : Nat
  hv : Value
  L : List (Int × Int)
  tv : Value
  text : List Int
  lv : Value
  log : List Giv
  ov : Bool
/-- a build in memory -/
structure BuAt (w : World) (x : BuS) : Prop where
  ok : PlanOk x.s x.k x.n
  str : Blk w x.b #[.pointer (some ⟨x.pb, 0, none⟩), .pointer (some ⟨x.hb, 0, none⟩), x.tv, x.lv, .bool x.ov] 63
  plan : PlanAt w x.pb x.s x.k x.n
  set : SetAt w x.hb x.hv x.L (tot x.L)
  good : Good (-1) x.L
  txt : w.ownsRow 0 5 1 x.tv x.s (x.text.map (Value.int .u8))
  log : w.ownsRow 0 37 4 x.lv x.log.length (x.log.flatMap givCells)
theorem BuAt.keep {S : Nat → Prop} {w w' : World} {x : BuS} (h : BuAt w x) (hk : Keep S w w') (h1 : ¬ S x.b) (h2 : ¬ S x.pb) (h3 : ¬ S x.hb) (h4 : ∀ g, x.hv.ownBlock = some g → ¬ S g) (h5 : ∀ g, x.tv.ownBlock = some g → ¬ S g) (h6 : ∀ g, x.lv.ownBlock = some g → ¬ S g) : BuAt w' x :=
  ⟨h.ok, h.str.keep hk h1, Blk.keep h.plan hk h2, h.set.keep hk h3 h4, h.good, ownsRow_keep h.txt hk h5, ownsRow_keep h.log hk h6⟩
theorem BuAt.below {w w' : World} {x : BuS} (h : BuAt w x) (hb : Below w.heap.size w w') : BuAt w' x := h.keep (Keep.none hb) id id id (fun _ _ => id) (fun _ _ => id) (fun _ _ => id)
theorem BuAt.c {w : World} {x : BuS} (h : BuAt w x) : w.cell? ⟨x.b, 0, none⟩ = some (.pointer (some ⟨x.pb, 0, none⟩)) ∧ w.cell? ⟨x.b, 1, none⟩ = some (.pointer (some ⟨x.hb, 0, none⟩)) ∧ w.cell? ⟨x.b, 2, none⟩ = some x.tv ∧ w.cell? ⟨x.b, 3, none⟩ = some x.lv ∧ w.cell? ⟨x.b, 4, none⟩ = some (.bool x.ov) := blk5 h.str
/-- all its blocks are made since B -/
structure BuNew (x : BuS) (B : Nat) : Prop where
  b : B ≤ x.b
  pb : B ≤ x.pb
  hb : B ≤ x.hb
  hv : ∀ g, x.hv.ownBlock = some g → B ≤ g
  tv : ∀ g, x.tv.ownBlock = some g → B ≤ g
  lv : ∀ g, x.lv.ownBlock = some g → B ≤ g
theorem BuNew.mono {x : BuS} {B B' : Nat} (h : BuNew x B) (hB : B' ≤ B) : BuNew x B' := ⟨by have := h.b; omega, by have := h.pb; omega, by have := h.hb; omega, fun g hg => by have := h.hv g hg; omega, fun g hg => by have := h.tv g hg; omega, fun g hg => by have := h.lv g hg; omega⟩
theorem make_u8 (n : Nat) (hn : n ≤ 16384) (w : World) : (Instr.makeSlice 32 (.int .i64 (n : Int)) (.int .i64 (n : Int))).run Try.prog w = .ok (.slice (some ⟨w.heap.size, 0, none⟩) n n) (w.alloc (.cells (madeCells (Value.int .u8 0).cells (n * 1)) 5)) := by
  obtain ⟨i0, hi, hz0, hz1, hz2⟩ := info_parts info_u8
  have h := run_make (P := Try.prog) w 32 5 i0 _ Try.underlying32 hi hz0 .i64 .i64 (n : Int) (n : Int) (by omega) (by omega) (by rw [hz2]; omega) (by omega)
  rw [hz1, Int.toNat_natCast] at h
  exact h
theorem made_u8 (n : Nat) : (madeCells (Value.int .u8 0).cells (n * 1)).toList = (List.replicate n (0 : Int)).map (Value.int .u8) := by
  unfold madeCells
  rw [Nat.mul_one]
  apply List.ext_getElem
  · simp
  · intro i h1 h2
    simp [Value.cells]
    rw [Nat.mod_one]; rfl
theorem bnew_done {s k n : Nat} {w w1 W : World} {pb hb tb bb : Nat} {mk : Array Value} (hok : PlanOk s k n) (hmk : mk = madeCells (Value.int .u8 0).cells (s * 1)) (hP : PlanAt W pb s k n) (hS : SetAt W hb (.slice none 0 0) [] 0) (hT : Blk W tb mk 5)
    (hB : Blk W bb #[.pointer (some ⟨pb, 0, none⟩), .pointer (some ⟨hb, 0, none⟩), .slice (some ⟨tb, 0, none⟩) s s, .slice none 0 0, .bool false] 63) (h1 : w.heap.size ≤ pb) (h2 : w.heap.size ≤ hb) (h3 : w.heap.size ≤ tb) (h4 : w.heap.size ≤ bb) (hW : Below w.heap.size w W) :
    ∃ x : BuS, Ending.returned (.tuple #[.pointer (some ⟨bb, 0, none⟩), .int .i64 0]) = .returned (.tuple #[.pointer (some ⟨x.b, 0, none⟩), .int .i64 0]) ∧ Hid (BuAt W x) ∧ Hid (x.s = s ∧ x.k = k ∧ x.n = n ∧ x.L = [] ∧ x.text = List.replicate s 0 ∧ x.log = [] ∧ x.ov = false) ∧ Hid (BuNew x w.heap.size) ∧ Hid (Below w.heap.size w W) := by
  have hsz : mk.size = s * 1 := by rw [hmk]; exact size_madeCells _ _
  refine ⟨⟨bb, pb, hb, s, k, n, .slice none 0 0, [], .slice (some ⟨tb, 0, none⟩) s s, List.replicate s 0, .slice none 0 0, [], false⟩, rfl, ⟨hok, hB, hP, hS, trivial, ?_, ⟨rfl, .inl ⟨rfl, rfl⟩⟩⟩, ⟨rfl, rfl, rfl, rfl, rfl, rfl, rfl⟩, ⟨h4, h1, h2, (fun g hg => by cases hg), (fun g hg => by cases hg; exact h3), (fun g hg => by cases hg)⟩, hW⟩
  refine ownsRow_of mk (Nat.zero_le _) hT (Nat.le_refl _) (by have := hok.1; unfold maxLen; omega) hsz ?_ (by simp)
  rw [List.take_of_length_le (by rw [Array.length_toList, hsz]; omega), hmk]
  exact made_u8 s
set_option maxRecDepth 100000 in
set_option maxHeartbeats 1000000 in
theorem bnew_yes (s k n : Nat) (w : World) (hp : PlanOk s k n) :
    Calls Try.prog 9 #[.int .i64 s, .int .i64 k, .int .i64 n] w fun e w' => ∃ x, e = .returned (.tuple #[.pointer (some ⟨x.b, 0, none⟩), .int .i64 0]) ∧ Hid (BuAt w' x) ∧ Hid (x.s = s ∧ x.k = k ∧ x.n = n ∧ x.L = [] ∧ x.text = List.replicate s 0 ∧ x.log = [] ∧ x.ov = false) ∧ Hid (BuNew x w.heap.size) ∧ Hid (Below w.heap.size w w') := by
  have HPN := Lib.hid (pnew_yes s k n w hp)
  have HRN := Lib.hid new_any
  have hmk := make_u8 s hp.1
  have HOK := Lib.hid hp
  obtain ⟨mk, hmk0⟩ : ∃ mk, mk = madeCells (Value.int .u8 0).cells (s * 1) := ⟨_, rfl⟩
  have HMK := Lib.hid hmk0
  rw [← hmk0] at hmk
  clear hp hmk0
  go_enter Try.func9, Try.ntmps9
  go_wp2_with fail
  refine HPN.out.mono ?_
  rintro e w1 ⟨rfl, hP, hb1⟩
  have HP := Lib.hid hP
  have HB1 := Lib.hid hb1
  clear hP hb1
  go_wp2_with fail
  go_region_with (go_at_call 27; refine (HRN.out _).mono ?_; rintro e w2 ⟨rfl, hs2, hb2⟩)
  · have hW : Below w1.heap.size w1 ((w2.alloc (.cells mk 5)).alloc (.cells #[.pointer (some ⟨w.heap.size, 0, none⟩), .pointer (some ⟨w1.heap.size, 0, none⟩), .slice (some ⟨w2.heap.size, 0, none⟩) s s, .slice none 0 0, .bool false] 63)) := ((below_drewN (Below.refl _ w1) 1).trans hb2 |>.alloc hb2.size _).alloc (by have := hb2.size; simp at this ⊢; omega) _
    have hW2 : Below w2.heap.size w2 ((w2.alloc (.cells mk 5)).alloc (.cells #[.pointer (some ⟨w.heap.size, 0, none⟩), .pointer (some ⟨w1.heap.size, 0, none⟩), .slice (some ⟨w2.heap.size, 0, none⟩) s s, .slice none 0 0, .bool false] 63)) := ((Below.refl _ w2).alloc (Nat.le_refl _) _).alloc (by simp) _
    have hw1 : w.heap.size ≤ w1.heap.size := HB1.out.size
    have hw2 : w1.heap.size ≤ w2.heap.size := hb2.size
    have HFIN := Lib.hid (bnew_done (w := w) (w1 := w1) HOK.out HMK.out (HP.out.below hW) (hs2.below hW2) ((Blk.new w2 mk 5).alloc _) (by have h := Blk.new (w2.alloc (.cells mk 5)) #[.pointer (some ⟨w.heap.size, 0, none⟩), .pointer (some ⟨w1.heap.size, 0, none⟩), .slice (some ⟨w2.heap.size, 0, none⟩) s s, .slice none 0 0, .bool false] 63; rwa [World.size_alloc] at h) (Nat.le_refl _) hw1 (by omega) (by omega) (bmore HB1.out hW hw1))
    clear hs2 hb2 hW hW2
    go_wp2
    go_ret2
    exact HFIN.out
  · have hT := Blk.new w1.drew mk 5
    have hW : Below w1.heap.size w1 (w2.alloc (.cells #[.pointer (some ⟨w.heap.size, 0, none⟩), .pointer (some ⟨w1.heap.size + 1, 0, none⟩), .slice (some ⟨w1.heap.size, 0, none⟩) s s, .slice none 0 0, .bool false] 63)) := by
      have h := ((below_drewN (Below.refl _ w1) 1).alloc (Nat.le_refl _) (.cells mk 5)).trans (hb2.mono (show w1.heap.size ≤ _ by simp))
      exact h.alloc h.size _
    have hW2 : Below w2.heap.size w2 (w2.alloc (.cells #[.pointer (some ⟨w.heap.size, 0, none⟩), .pointer (some ⟨w1.heap.size + 1, 0, none⟩), .slice (some ⟨w1.heap.size, 0, none⟩) s s, .slice none 0 0, .bool false] 63)) := (Below.refl _ w2).alloc (Nat.le_refl _) _
    have hw1 : w.heap.size ≤ w1.heap.size := HB1.out.size
    have hw2 : w1.heap.size ≤ w2.heap.size := by have h := hb2.size; simp at h; exact Nat.le_trans (Nat.le_succ _) h
    have HFIN := Lib.hid (bnew_done (w := w) (w1 := w1) HOK.out HMK.out (HP.out.below hW) (by have h := hs2.below hW2; simpa using h) ((hT.below hb2).below hW2) (Blk.new w2 _ _) (Nat.le_refl _) (by omega) hw1 (by omega) (bmore HB1.out hW hw1))
    clear hs2 hb2 hW hW2 hT
    go_wp2
    go_ret2
    exact HFIN.out
theorem bnew_no (s k n : Int) (w : World) (h : planB s k n = false) :
    Calls Try.prog 9 #[.int .i64 s, .int .i64 k, .int .i64 n] w fun e w' => e = .returned (.tuple #[.pointer none, .int .i64 11]) ∧ w' = w := by
  have HPN := Lib.hid (pnew_no s k n w h)
  clear h
  go_enter Try.func9, Try.ntmps9
  go_wp2_with fail
  refine HPN.out.mono ?_
  rintro e w1 ⟨rfl, rfl⟩
  go_wp2
  go_ret2
  exact ⟨rfl, rfl⟩
end Go.Proofs.Ythjlbbbkghigfaa
