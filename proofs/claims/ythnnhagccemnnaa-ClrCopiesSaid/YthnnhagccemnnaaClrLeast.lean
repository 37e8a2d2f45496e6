/- clr: Least. -/
import Derived.Test.YthnnhagccemnnaaClrRefP
import Derived.Test.YthnnhagccemnnaaClr3
import Derived.Deep.RegionHeld3
namespace Go.Proofs.Ythnnhagccemnnaa
open Go.RowKit
set_option linter.unusedVariables false
set_option linter.unusedSimpArgs false
set_option maxRecDepth 100000 in
theorem isNaNF_any (a : Int) (w : World) : Calls Try.prog 38 #[.int .u64 a] w fun e w' => e = .returned (.bool false) ∧ w = w' := by
  go_enter Try.func38, Try.ntmps38
  go_wp2
  go_ret
  exact ⟨by simp, rfl⟩
set_option maxRecDepth 100000 in
theorem compareF_any (a b : Int) (w : World) : Calls Try.prog 35 #[.int .u64 a, .int .u64 b] w fun e w' => e = .returned (.int .i64 (cmpI a b)) ∧ w = w' := by
  unfold cmpI
  rcases (by omega : a < b ∨ (¬ a < b ∧ b < a) ∨ (¬ a < b ∧ ¬ b < a)) with h | ⟨h, h2⟩ | ⟨h, h2⟩
  · rw [if_pos h]
    go_enter Try.func35, Try.ntmps35
    go_wp2_with (go_at_call 38; refine (isNaNF_any _ _).mono ?_; rintro e w' ⟨rfl, rfl⟩)
    go_ret
    exact ⟨rfl, rfl⟩
  · rw [if_neg h, if_pos h2]
    go_enter Try.func35, Try.ntmps35
    go_wp2_with (go_at_call 38; refine (isNaNF_any _ _).mono ?_; rintro e w' ⟨rfl, rfl⟩)
    go_ret
    exact ⟨rfl, rfl⟩
  · rw [if_neg h, if_neg h2]
    go_enter Try.func35, Try.ntmps35
    go_wp2_with (go_at_call 38; refine (isNaNF_any _ _).mono ?_; rintro e w' ⟨rfl, rfl⟩)
    go_ret
    exact ⟨rfl, rfl⟩
set_option maxRecDepth 100000 in
theorem leastc_any (o t : Told) (w : World) : Calls Try.prog 34 #[.agg #[.int .i64 o.frm, .int .i64 o.tick, .int .u64 o.rate], .agg #[.int .i64 t.frm, .int .i64 t.tick, .int .u64 t.rate]] w fun e w' => e = .returned (.int .i64 (cmpI o.rate t.rate)) ∧ Below w.heap.size w w' := by
  go_enter Try.func34, Try.ntmps34
  go_wp2_with fail
  refine (compareF_any _ _ _).mono ?_
  rintro e w' ⟨rfl, rfl⟩
  go_wp2
  go_ret
  exact ⟨rfl, bmore ((Below.refl w.heap.size w).alloc (Nat.le_refl _) _) ((Below.refl _ _).alloc (Nat.le_refl _) _) (by simp)⟩
theorem lf_fold_some : ∀ (l : List Told) (x : Told), ∃ y, l.foldl (fun m t => match m with | none => some t | some x => if t.rate < x.rate then some t else some x) (some x) = some y
  | [], x => ⟨x, rfl⟩
  | a :: l, x => by
    rw [List.foldl_cons]
    simp only
    split
    · exact lf_fold_some l a
    · exact lf_fold_some l x
theorem lf_take {l : List Told} {k : Nat} {x t : Told} (hx : lf (l.take k) = some x) (ht : l[k]? = some t) : lf (l.take (k + 1)) = some (if t.rate < x.rate then t else x) := by
  rw [List.take_add_one, ht, Option.toList_some, lf_app, hx]
theorem below_set3' {w0 w : World} {b : Nat} (hb : Below w0.heap.size w0 w) (h : w0.heap.size ≤ b) (v0 v1 v2 : Value) :
    Below w0.heap.size w0 (((w.setCell ⟨b, 0, none⟩ v0).setCell ⟨b, 1, none⟩ v1).setCell ⟨b, 2, none⟩ v2) := below_set3 hb h
theorem held6 {wr w3 : World} {p0 p1 p2 : Addr} {v0 v1 v2 a0 a1 a2 : Value} {b : Nat} {T : TypeId} (hb : Below wr.drew.heap.size wr.drew w3) (d0 : wr.cell? p0 = some v0) (d1 : wr.cell? p1 = some v1) (d2 : wr.cell? p2 = some v2) (h : Blk wr b #[a0, a1, a2] T) :
    w3.cell? p0 = some v0 ∧ w3.cell? p1 = some v1 ∧ w3.cell? p2 = some v2 ∧ w3.cell? ⟨b, 0, none⟩ = some a0 ∧ w3.cell? ⟨b, 1, none⟩ = some a1 ∧ w3.cell? ⟨b, 2, none⟩ = some a2 := by
  have key : ∀ {p : Addr} {v : Value}, wr.cell? p = some v → w3.cell? p = some v := fun {p v} d => ((Keep.none hb).cell (p := p) (World.block_lt_of_cell? _ _ d) id).trans d
  obtain ⟨b0, b1, b2⟩ := blk3 h
  exact ⟨key d0, key d1, key d2, key b0, key b1, key b2⟩
set_option maxRecDepth 100000 in
set_option maxHeartbeats 1000000 in
theorem minf_any (v : Value) (l : List Told) (x : Told) (w : World) (h : ToldsAt w v l) (hn : l.length ≤ 1000000000) (hx : lf l = some x) :
    Calls Try.prog 33 #[v, .func (.func 34) #[] #[]] w fun e w' => e = .returned (.agg #[.int .i64 x.frm, .int .i64 x.tick, .int .u64 x.rate]) ∧ Below w.heap.size w w' := by
  obtain ⟨A, c, rfl, -⟩ := h.val
  obtain ⟨t0, ht0⟩ : ∃ t, l[0]? = some t := by
    cases l with
    | nil => cases hx
    | cons a l => exact ⟨a, rfl⟩
  obtain ⟨g, p, c', he, o0, o1, o2⟩ := ToldsAt.at h ht0
  cases he
  have hl : 0 < l.length := (List.getElem?_eq_some_iff.1 ht0).1
  have H := Lib.hid h
  have HX := Lib.hid hx
  have HLF : Hid (lf (l.take 1) = some t0) := by
    show _ = _
    cases l with
    | nil => cases ht0
    | cons a l => cases ht0; rfl
  have hbx := boxes2' w #[.int .i64 0, .int .i64 0, .int .u64 0] #[.int .i64 t0.frm, .int .i64 t0.tick, .int .u64 t0.rate] 34
  have HBX := Lib.hid hbx
  have HCC := Lib.hid leastc_any
  have i1 : ¬ (l.length : Int) < 1 := by omega
  have i2 : (0 : Int) < (l.length : Int) := by omega
  have hg := World.block_lt_of_cell? _ _ o0
  replace o0 : w.cell? ⟨g, p, none⟩ = some (.int .i64 t0.frm) := by simpa using o0
  replace o1 : w.cell? ⟨g, p + 1, none⟩ = some (.int .i64 t0.tick) := by simpa using o1
  replace o2 : w.cell? ⟨g, p + 2, none⟩ = some (.int .u64 t0.rate) := by simpa using o2
  obtain ⟨wz, hwz⟩ : ∃ wz, wz = (w.alloc (.cells #[.int .i64 0, .int .i64 0, .int .u64 0] 34)).alloc (.cells #[.int .i64 t0.frm, .int .i64 t0.tick, .int .u64 t0.rate] 34) := ⟨_, rfl⟩
  rw [← hwz] at HBX
  have HWZ := Lib.hid hwz
  clear h hx ht0 hbx hwz
  go_enter Try.func33, Try.ntmps33
  go_wp2_with fail
  rw [← HWZ.out]
  clear o0 o1 o2
  have HZ0 := Lib.hid HBX.out.1
  have HB0 := Lib.hid HBX.out.2.1
  have HL0 := Lib.hid HBX.out.2.2.1
  go_loopw [6] (fun i wr => ∃ k : Nat, 1 ≤ k ∧ k ≤ l.length ∧ i = .int .i64 k ∧ ∃ m : Told, Hid (lf (l.take k) = some m) ∧ Hid (Blk wr (w.heap.size + 1) #[.int .i64 m.frm, .int .i64 m.tick, .int .u64 m.rate] 34) ∧ Hid (Blk wr w.heap.size #[.int .i64 0, .int .i64 0, .int .u64 0] 34) ∧ Hid (Below w.heap.size w wr)) (fun i _ => l.length - (intOf i).toNat)
  case atStart => exact ⟨1, by omega, by omega, rfl, t0, HLF, HB0, HZ0, HL0⟩
  case round =>
    obtain ⟨k, hk1, hk, rfl, m, HM, HB, HZ, HL⟩ := hrel
    by_cases hlt : k < l.length
    · obtain ⟨o, ho⟩ : ∃ o, l[k]? = some o := ⟨_, List.getElem?_eq_getElem hlt⟩
      obtain ⟨g2, p2, c2, he, d0, d1, d2⟩ := ToldsAt.at (Reads.below H.out HL.out) ho
      cases he
      have HO := Lib.hid ho
      have j1 : (0 : Int) ≤ (k : Int) := by omega
      have j2 : (k : Int) < (l.length : Int) := by omega
      obtain ⟨b0, b1, b2⟩ := blk3 HB.out
      have HLW : Hid (w.heap.size ≤ wr.heap.size) := HL.out.size
      clear ho
      go_wp2_with fail
      have HD := Lib.hid (And.intro d0 (And.intro d1 d2))
      go_region_held3 (fun w' => w'.cell? ⟨g, p + k * 3, none⟩ = some (.int .i64 o.frm) ∧ w'.cell? ⟨g, p + k * 3 + 1, none⟩ = some (.int .i64 o.tick) ∧ w'.cell? ⟨g, p + k * 3 + 2, none⟩ = some (.int .u64 o.rate) ∧ w'.cell? ⟨w.heap.size + 1, 0, none⟩ = some (.int .i64 m.frm) ∧ w'.cell? ⟨w.heap.size + 1, 1, none⟩ = some (.int .i64 m.tick) ∧ w'.cell? ⟨w.heap.size + 1, 2, none⟩ = some (.int .u64 m.rate)) (first | exact ⟨d0, d1, d2, b0, b1, b2⟩ | exact e)
        (first
          | (go_at_call 34; refine (HCC.out o m _).mono ?_; rintro e w3 ⟨rfl, hb3⟩; have HB3 := Lib.hid hb3; have e := held6 hb3 HD.out.1 HD.out.2.1 HD.out.2.2 HB.out; clear hb3))
      have HBn := Lib.hid (HB.out.drew.below HB3.out)
      have HZn := Lib.hid (HZ.out.drew.below HB3.out)
      have HLn := Lib.hid (bmore HL.out.drew HB3.out HLW.out)
      have hlf := lf_take HM.out HO.out
      obtain ⟨d0', d1', d2', -⟩ := e
      clear d0 d1 d2 b0 b1 b2 HB3 HD
      obtain ⟨b0, b1, b2⟩ := blk3 HBn.out
      have f0 := HBn.out.frozen 0
      have f1 := HBn.out.frozen 1
      have f2 := HBn.out.frozen 2
      by_cases hc : o.rate < m.rate
      · rw [if_pos hc] at hlf
        have HLF2 := Lib.hid hlf
        have t1 : cmpI o.rate m.rate < 0 := cmpI_lt.2 hc
        have B4 : Hid (Blk (((w3.setCell ⟨w.heap.size + 1, 0, none⟩ (.int .i64 o.frm)).setCell ⟨w.heap.size + 1, 1, none⟩ (.int .i64 o.tick)).setCell ⟨w.heap.size + 1, 2, none⟩ (.int .u64 o.rate)) (w.heap.size + 1) #[.int .i64 o.frm, .int .i64 o.tick, .int .u64 o.rate] 34) := ((HBn.out.set' rfl).set' rfl).set' rfl
        have Z4 : Hid (Blk (((w3.setCell ⟨w.heap.size + 1, 0, none⟩ (.int .i64 o.frm)).setCell ⟨w.heap.size + 1, 1, none⟩ (.int .i64 o.tick)).setCell ⟨w.heap.size + 1, 2, none⟩ (.int .u64 o.rate)) w.heap.size #[.int .i64 0, .int .i64 0, .int .u64 0] 34) := blk_off3 HZn.out (by omega)
        have L4 : Hid (Below w.heap.size w (((w3.setCell ⟨w.heap.size + 1, 0, none⟩ (.int .i64 o.frm)).setCell ⟨w.heap.size + 1, 1, none⟩ (.int .i64 o.tick)).setCell ⟨w.heap.size + 1, 2, none⟩ (.int .u64 o.rate))) := below_set3 HLn.out (by omega)
        clear hlf
        generalize cmpI o.rate m.rate = cx at *
        go_wp2
        go_roundw
        case rel => exact ⟨k + 1, by omega, by omega, by go_num, o, HLF2, B4, Z4, L4⟩
        case measure => simp [intOf]; omega
      · rw [if_neg hc] at hlf
        have HLF2 := Lib.hid hlf
        have t1 : ¬ cmpI o.rate m.rate < 0 := fun h => hc (cmpI_lt.1 h)
        clear hlf
        generalize cmpI o.rate m.rate = cx at *
        go_wp2
        go_roundw
        case rel => exact ⟨k + 1, by omega, by omega, by go_num, m, HLF2, HBn, HZn, HLn⟩
        case measure => simp [intOf]; omega
    · obtain rfl : k = l.length := by omega
      have hm := HM.out
      rw [List.take_length, HX.out] at hm
      cases hm
      obtain ⟨b0, b1, b2⟩ := blk3 HB.out
      obtain ⟨z0, z1, z2⟩ := blk3 HZ.out
      have f0 := HZ.out.frozen 0
      have f1 := HZ.out.frozen 1
      have f2 := HZ.out.frozen 2
      have hL := HL.out.size
      have hsz : w.heap.size < wr.heap.size := HZ.out.lt
      clear hL
      go_wp2
      exact bodyPost_ret (v := .agg #[.int .i64 x.frm, .int .i64 x.tick, .int .u64 x.rate]) (by simp [results, Try.results33, go_sem, z0, z1, z2, hsz]) rfl ⟨rfl, below_set3 HL.out (Nat.le_refl _)⟩
theorem least_any (b : Nat) (v : Value) (l : List Told) (lim c : Int) (w : World) (h : BkAt w b v l lim c) (hn : l.length ≤ 1000) :
    Calls Try.prog 24 #[.pointer (some ⟨b, 0, none⟩)] w fun e w' => e = .returned (.tuple #[.agg #[.int .i64 (gotV (lf l)).frm, .int .i64 (gotV (lf l)).tick, .int .u64 (gotV (lf l)).rate], .bool (lf l).isSome]) ∧ Below w.heap.size w w' := by
  obtain ⟨A, k, rfl⟩ := h.slice
  have hbl := h.str.lt
  have hba : Below w.heap.size w (w.alloc (.cells #[.int .i64 0, .int .i64 0, .int .u64 0] 34)) := (Below.refl _ w).alloc (Nat.le_refl _) _
  have HBA := Lib.hid hba
  have HA := Lib.hid (Blk.new w #[.int .i64 0, .int .i64 0, .int .u64 0] 34)
  obtain ⟨c0, c1, c2⟩ := blk3 (h.below hba).str
  have HT := Lib.hid (h.below hba).told
  cases hl : lf l with
  | none =>
    obtain rfl : l = [] := by
      cases l with
      | nil => rfl
      | cons a l =>
        obtain ⟨y, hy⟩ := lf_fold_some l a
        have : lf (a :: l) = some y := hy
        rw [hl] at this
        cases this
    obtain ⟨a0, a1, a2⟩ := blk3 HA.out
    have f0 := HA.out.frozen 0
    have f1 := HA.out.frozen 1
    have f2 := HA.out.frozen 2
    have hlt : w.heap.size < (w.alloc (.cells #[.int .i64 0, .int .i64 0, .int .u64 0] 34)).heap.size := by simp
    clear hl h hba
    go_enter Try.func24, Try.ntmps24
    go_wp2
    exact bodyPost_ret (v := .tuple #[.agg #[.int .i64 0, .int .i64 0, .int .u64 0], .bool false]) (by simp [results, Try.results24, go_sem, hlt, a0, a1, a2]) rfl ⟨rfl, HBA.out⟩
  | some x =>
    have HM := Lib.hid (fun w h => minf_any (.slice A l.length k) l x w h (by omega) hl)
    have hl0 : ¬ (l.length : Int) = 0 := by
      cases l with
      | nil => cases hl
      | cons a l => simp; omega
    have hl1 : ((l.length : Int) == 0) = false := by simpa using hl0
    clear hl h hba hl0
    go_enter Try.func24, Try.ntmps24
    go_wp2_with fail
    refine (HM.out _ HT.out).mono ?_
    rintro e w1 ⟨rfl, hb1⟩
    have HQ := Lib.hid (bmore HBA.out hb1 HBA.out.size)
    obtain ⟨a0, a1, a2⟩ := blk3 (HA.out.below hb1)
    have f0 := (HA.out.below hb1).frozen 0
    have f1 := (HA.out.below hb1).frozen 1
    have f2 := (HA.out.below hb1).frozen 2
    have hlt : w.heap.size < w1.heap.size := by have := hb1.size; simp at this; omega
    clear hb1
    go_wp2
    exact bodyPost_ret (v := .tuple #[.agg #[.int .i64 x.frm, .int .i64 x.tick, .int .u64 x.rate], .bool true]) (by simp [results, Try.results24, go_sem, hlt, a0, a1, a2]) rfl ⟨rfl, below_set3 HQ.out (Nat.le_refl _)⟩
end Go.Proofs.Ythnnhagccemnnaa
