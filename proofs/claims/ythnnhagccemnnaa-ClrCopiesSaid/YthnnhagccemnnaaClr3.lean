/- clr: the methods of a book. -/
import Derived.Test.YthnnhagccemnnaaClr2
namespace Go.Proofs.Ythnnhagccemnnaa
open Go.RowKit
set_option linter.unusedVariables false
set_option linter.unusedSimpArgs false

/-- a book in memory: its struct in block b, its reports in the slice v -/
structure BkAt (w : World) (b : Nat) (v : Value) (l : List Told) (lim c : Int) : Prop where
  str : Blk w b #[.int .i64 lim, v, .int .i64 c] 54
  row : w.ownsRow 0 34 3 v l.length (l.flatMap toldCells)
  ris : Rising l
theorem BkAt.keep {S : Nat → Prop} {w w' : World} {b : Nat} {v : Value} {l : List Told} {lim c : Int} (h : BkAt w b v l lim c) (hk : Keep S w w') (hb : ¬ S b) (hv : ∀ g, v.ownBlock = some g → ¬ S g) : BkAt w' b v l lim c :=
  ⟨h.str.keep hk hb, ownsRow_keep h.row hk hv, h.ris⟩
theorem BkAt.below {w w' : World} {b : Nat} {v : Value} {l : List Told} {lim c : Int} (h : BkAt w b v l lim c) (hb : Below w.heap.size w w') : BkAt w' b v l lim c := h.keep (Keep.none hb) id (fun _ _ => id)
theorem BkAt.drewN {w : World} {b : Nat} {v : Value} {l : List Told} {lim c : Int} (h : BkAt w b v l lim c) (n : Nat) : BkAt (w.drewN n) b v l lim c := ⟨h.str, h.row, h.ris⟩
theorem BkAt.slice {w : World} {b : Nat} {v : Value} {l : List Told} {lim c : Int} (h : BkAt w b v l lim c) : ∃ A k, v = .slice A l.length k := ownsRow_slice h.row
theorem BkAt.told {w : World} {b : Nat} {v : Value} {l : List Told} {lim c : Int} (h : BkAt w b v l lim c) : ToldsAt w v l := Reads.of_owns h.row
/-- its two blocks differ -/
theorem BkAt.ne {w : World} {b : Nat} {v : Value} {l : List Told} {lim c : Int} (h : BkAt w b v l lim c) {g : Nat} (hg : v.ownBlock = some g) : g ≠ b ∧ g < w.heap.size := by
  rcases h.row.2 with ⟨rfl, _⟩ | ⟨g', cap, cur, rfl, h1, hh, _⟩
  · cases hg
  · cases hg
    refine ⟨fun e => ?_, (Array.getElem?_eq_some_iff.1 hh).1⟩
    subst e
    have := h.str
    unfold Blk at this
    rw [hh] at this
    cases this

set_option maxRecDepth 100000 in
theorem find_any (b : Nat) (v : Value) (l : List Told) (lim c r : Int) (w : World) (h : BkAt w b v l lim c) (hn : l.length ≤ 1000) :
    Calls Try.prog 19 #[.pointer (some ⟨b, 0, none⟩), .int .i64 r] w fun e w' => ∃ p, Parts l r p ∧ e = .returned (.tuple #[.int .i64 p, .bool (lk l r).isSome]) ∧ Below w.heap.size w w' := by
  obtain ⟨A, k, rfl⟩ := h.slice
  obtain ⟨c0, c1, c2⟩ := blk3 h.str
  have HS := Lib.hid (search_any (.slice A l.length k) l r w h.told h.ris (by omega))
  have HR := Lib.hid h.ris
  clear h
  go_enter Try.func19, Try.ntmps19
  go_wp2_with fail
  refine HS.out.mono ?_
  rintro e w1 ⟨p, hp, rfl, hb⟩
  rw [hit_lk HR.out hp]
  go_wp2
  go_ret2
  exact ⟨p, hp, rfl, hb⟩

set_option maxRecDepth 100000 in
theorem of_yes (b : Nat) (v : Value) (l : List Told) (lim c r : Int) (o : Told) (w : World) (h : BkAt w b v l lim c) (hn : l.length ≤ 1000) (ho : lk l r = some o) :
    Calls Try.prog 17 #[.pointer (some ⟨b, 0, none⟩), .int .i64 r] w fun e w' => e = .returned (.tuple #[.agg #[.int .i64 o.frm, .int .i64 o.tick, .int .u64 o.rate], .int .i64 0]) ∧ Below w.heap.size w w' := by
  obtain ⟨A, k, rfl⟩ := h.slice
  have hf := fun w h => find_any b (.slice A l.length k) l lim c r w h hn
  rw [ho] at hf
  have HF := Lib.hid hf
  have H := Lib.hid h
  have HO := Lib.hid ho
  have hba : Below w.heap.size w (w.alloc (.cells #[.int .i64 0, .int .i64 0, .int .u64 0] 34)) := (Below.refl _ w).alloc (Nat.le_refl _) _
  have HBA := Lib.hid hba
  have HA := Lib.hid (Blk.new w #[.int .i64 0, .int .i64 0, .int .u64 0] 34)
  clear hf h ho hba
  go_enter Try.func17, Try.ntmps17
  go_wp2_with fail
  refine (HF.out _ (H.out.below HBA.out)).mono ?_
  rintro e w1 ⟨p, hp, rfl, hb1⟩
  have HQ := Lib.hid (bmore HBA.out hb1 HBA.out.size)
  have h1 := (H.out.below HBA.out).below hb1
  obtain ⟨c0, c1, c2⟩ := blk3 h1.str
  obtain ⟨g, q, k', he, o0, o1, o2⟩ := h1.told.at (hit_some h1.ris hp HO.out)
  cases he
  obtain ⟨a0, a1, a2⟩ := blk3 (HA.out.below hb1)
  have f0 := (HA.out.below hb1).frozen 0
  have f1 := (HA.out.below hb1).frozen 1
  have f2 := (HA.out.below hb1).frozen 2
  have i1 : (0 : Int) ≤ (p : Int) := by omega
  have i2 : (p : Int) < (l.length : Int) := by have := (List.getElem?_eq_some_iff.1 (hit_some h1.ris hp HO.out)).1; omega
  have hlt : w.heap.size < w1.heap.size := by have := hb1.size; simp at this; omega
  clear h1 hb1
  go_wp2
  exact bodyPost_ret (v := .tuple #[.agg #[.int .i64 o.frm, .int .i64 o.tick, .int .u64 o.rate], .int .i64 0]) (by simp [results, Try.results17, go_sem, hlt, a0, a1, a2]) rfl ⟨rfl, ((HQ.out.setCell (Nat.le_refl _) _).setCell (Nat.le_refl _) _).setCell (Nat.le_refl _) _⟩

set_option maxRecDepth 100000 in
theorem of_no (b : Nat) (v : Value) (l : List Told) (lim c r : Int) (w : World) (h : BkAt w b v l lim c) (hn : l.length ≤ 1000) (ho : lk l r = none) :
    Calls Try.prog 17 #[.pointer (some ⟨b, 0, none⟩), .int .i64 r] w fun e w' => e = .returned (.tuple #[.agg #[.int .i64 0, .int .i64 0, .int .u64 0], .int .i64 14]) ∧ Below w.heap.size w w' := by
  obtain ⟨A, k, rfl⟩ := h.slice
  have hf := fun w h => find_any b (.slice A l.length k) l lim c r w h hn
  rw [ho] at hf
  have HF := Lib.hid hf
  have H := Lib.hid h
  have hba : Below w.heap.size w (w.alloc (.cells #[.int .i64 0, .int .i64 0, .int .u64 0] 34)) := (Below.refl _ w).alloc (Nat.le_refl _) _
  have HBA := Lib.hid hba
  have HA := Lib.hid (Blk.new w #[.int .i64 0, .int .i64 0, .int .u64 0] 34)
  clear hf h ho hba
  go_enter Try.func17, Try.ntmps17
  go_wp2_with fail
  refine (HF.out _ (H.out.below HBA.out)).mono ?_
  rintro e w1 ⟨p, hp, rfl, hb1⟩
  have HQ := Lib.hid (bmore HBA.out hb1 HBA.out.size)
  obtain ⟨a0, a1, a2⟩ := blk3 (HA.out.below hb1)
  have f0 := (HA.out.below hb1).frozen 0
  have f1 := (HA.out.below hb1).frozen 1
  have f2 := (HA.out.below hb1).frozen 2
  have hlt : w.heap.size < w1.heap.size := by have := hb1.size; simp at this; omega
  clear hb1
  go_wp2
  exact bodyPost_ret (v := .tuple #[.agg #[.int .i64 0, .int .i64 0, .int .u64 0], .int .i64 14]) (by simp [results, Try.results17, go_sem, hlt, a0, a1, a2]) rfl ⟨rfl, ((HQ.out.setCell (Nat.le_refl _) _).setCell (Nat.le_refl _) _).setCell (Nat.le_refl _) _⟩

def toldV (o : Told) : Value := .agg #[.int .i64 o.frm, .int .i64 o.tick, .int .u64 o.rate]
def ofV (x : Option Told) : Value := match x with | some o => .tuple #[toldV o, .int .i64 0] | none => .tuple #[toldV ⟨0, 0, 0⟩, .int .i64 14]
theorem of_any (b : Nat) (v : Value) (l : List Told) (lim c r : Int) (w : World) (h : BkAt w b v l lim c) (hn : l.length ≤ 1000) :
    Calls Try.prog 17 #[.pointer (some ⟨b, 0, none⟩), .int .i64 r] w fun e w' => e = .returned (ofV (lk l r)) ∧ Below w.heap.size w w' := by
  cases ho : lk l r with
  | some o => exact of_yes b v l lim c r o w h hn ho
  | none => exact of_no b v l lim c r w h hn ho
def gotV (x : Option Told) : Told := x.getD ⟨0, 0, 0⟩

set_option maxRecDepth 100000 in
theorem clr_any (b : Nat) (v : Value) (l : List Told) (lim c : Int) (w : World) (h : BkAt w b v l lim c) (hn : l.length ≤ 1000) :
    Calls Try.prog 10 #[.pointer (some ⟨b, 0, none⟩)] w fun e w' => e = .returned (.tuple #[.agg #[.int .i64 (gotV (lk l c)).frm, .int .i64 (gotV (lk l c)).tick, .int .u64 (gotV (lk l c)).rate], .bool (lk l c).isSome]) ∧ Below w.heap.size w w' := by
  have hf := fun w h => of_any b v l lim c c w h hn
  have hv : ofV (lk l c) = .tuple #[.agg #[.int .i64 (gotV (lk l c)).frm, .int .i64 (gotV (lk l c)).tick, .int .u64 (gotV (lk l c)).rate], .int .i64 (if (lk l c).isSome then 0 else 14)] := by
    cases lk l c <;> rfl
  rw [hv] at hf
  generalize gotV (lk l c) = o at *
  generalize hs : (lk l c).isSome = s at *
  have HF := Lib.hid hf
  have H := Lib.hid h
  have hba : Below w.heap.size w (w.alloc (.cells #[.int .i64 0, .int .i64 0, .int .u64 0] 34)) := (Below.refl _ w).alloc (Nat.le_refl _) _
  have HBA := Lib.hid hba
  have HA := Lib.hid (Blk.new w #[.int .i64 0, .int .i64 0, .int .u64 0] 34)
  obtain ⟨c0, c1, c2⟩ := blk3 (h.below hba).str
  clear hf h hba hv
  go_enter Try.func10, Try.ntmps10
  go_wp2_with fail
  refine (HF.out _ (H.out.below HBA.out)).mono ?_
  rintro e w1 ⟨rfl, hb1⟩
  have HQ := Lib.hid (bmore HBA.out hb1 HBA.out.size)
  obtain ⟨a0, a1, a2⟩ := blk3 (HA.out.below hb1)
  have f0 := (HA.out.below hb1).frozen 0
  have f1 := (HA.out.below hb1).frozen 1
  have f2 := (HA.out.below hb1).frozen 2
  have hlt : w.heap.size < w1.heap.size := by have := hb1.size; simp at this; omega
  clear hb1
  cases s
  all_goals go_wp2
  · exact bodyPost_ret (v := .tuple #[.agg #[.int .i64 o.frm, .int .i64 o.tick, .int .u64 o.rate], .bool false]) (by simp [results, Try.results10, go_sem, hlt, a0, a1, a2]) rfl ⟨rfl, (((HQ.out.setCell (Nat.le_refl _) _).setCell (Nat.le_refl _) _).setCell (Nat.le_refl _) _).alloc (by simp; omega) _⟩
  · exact bodyPost_ret (v := .tuple #[.agg #[.int .i64 o.frm, .int .i64 o.tick, .int .u64 o.rate], .bool true]) (by simp [results, Try.results10, go_sem, hlt, a0, a1, a2]) rfl ⟨rfl, (((HQ.out.setCell (Nat.le_refl _) _).setCell (Nat.le_refl _) _).setCell (Nat.le_refl _) _).alloc (by simp; omega) _⟩
end Go.Proofs.Ythnnhagccemnnaa
