/- clr: a report is taken in. -/
import Derived.Test.YthnnhagccemnnaaClr4
import Derived.Deep.RegionHeld3
namespace Go.Proofs.Ythnnhagccemnnaa
open Go.RowKit
set_option linter.unusedVariables false
set_option linter.unusedSimpArgs false

def tkC (l : List Told) (c : Int) (t : Told) : Int := if (lk l c).isSome = false ∨ t.rate < (gotV (lk l c)).rate then t.frm else c
theorem BkAt.setC {w : World} {b : Nat} {v : Value} {l : List Told} {lim c : Int} (h : BkAt w b v l lim c) (c' : Int) : BkAt (w.setCell ⟨b, 2, none⟩ (.int .i64 c')) b v l lim c' :=
  ⟨h.str.set' (by simp), ownsRow_keep h.row ((Keep.refl (fun k => k = b) w).setCell (.inl rfl) _) (fun g hg e => (h.ne hg).1 e), h.ris⟩

theorem flat_set3 : ∀ (l : List Told) (r : Nat) (o : Told), r < l.length → (((l.flatMap toldCells).set (r * 3) (.int .i64 o.frm)).set (r * 3 + 1) (.int .i64 o.tick)).set (r * 3 + 2) (.int .u64 o.rate) = (l.set r o).flatMap toldCells
  | [], r, o, h => by simp at h
  | z :: l, 0, o, _ => by simp [toldCells]
  | z :: l, r + 1, o, h => by
    have ih := flat_set3 l r o (by simpa using h)
    rw [List.set_cons_succ, List.flatMap_cons, List.flatMap_cons, ← ih, show (r + 1) * 3 = r * 3 + 3 by omega]
    simp [toldCells]
theorem BkAt.setL {w : World} {b g k : Nat} {l : List Told} {lim c : Int} (h : BkAt w b (.slice (some ⟨g, 0, none⟩) l.length k) l lim c) {r : Nat} {o t : Told} (ho : l[r]? = some o) (he : o.frm = t.frm) :
    BkAt (((w.setCell ⟨g, r * 3, none⟩ (.int .i64 t.frm)).setCell ⟨g, r * 3 + 1, none⟩ (.int .i64 t.tick)).setCell ⟨g, r * 3 + 2, none⟩ (.int .u64 t.rate)) b (.slice (some ⟨g, 0, none⟩) l.length k) (l.set r t) lim c := by
  have hl : (l.flatMap toldCells).length = l.length * 3 := flatMap_length toldCells_len l
  have hr := (List.getElem?_eq_some_iff.1 ho).1
  have hne : b ≠ g := fun e => (h.ne (g := g) rfl).1 e.symm
  refine ⟨((h.str.setOther hne _).setOther hne _).setOther hne _, ?_, set_rising h.ris ho he⟩
  rw [List.length_set, ← flat_set3 l r t hr]
  have h1 := ownsRow_set h.row (j := r * 3) (by omega) (.int .i64 t.frm)
  have h2 := ownsRow_set h1 (j := r * 3 + 1) (by rw [List.length_set]; omega) (.int .i64 t.tick)
  exact ownsRow_set h2 (j := r * 3 + 2) (by rw [List.length_set, List.length_set]; omega) (.int .u64 t.rate)
theorem BkAt.drew {w : World} {b : Nat} {v : Value} {l : List Told} {lim c : Int} (h : BkAt w b v l lim c) : BkAt w.drew b v l lim c := ⟨h.str, h.row, h.ris⟩
theorem BkAt.one {w : World} {b g k : Nat} {l : List Told} {lim c : Int} (h : BkAt w b (.slice (some ⟨g, 0, none⟩) l.length k) l lim c) {r : Nat} {o : Told} (ho : l[r]? = some o) : w.cell? ⟨g, r * 3, none⟩ = some (.int .i64 o.frm) ∧ w.cell? ⟨g, r * 3 + 1, none⟩ = some (.int .i64 o.tick) ∧ w.cell? ⟨g, r * 3 + 2, none⟩ = some (.int .u64 o.rate) := by
  have f := fun j u hu => ownsRow_cell h.row (flatMap_at toldCells_len l r o j u ho hu)
  exact ⟨f 0 _ rfl, f 1 _ rfl, f 2 _ rfl⟩

set_option maxRecDepth 100000 in
theorem take_no (b : Nat) (v : Value) (l : List Told) (lim c now : Int) (t : Told) (w : World) (h : BkAt w b v l lim c) (hn : l.length ≤ 1000) (hm : mayE l lim t now ≠ 0) :
    Calls Try.prog 11 #[.pointer (some ⟨b, 0, none⟩), .agg #[.int .i64 t.frm, .int .i64 t.tick, .int .u64 t.rate], .int .i64 now] w fun e w' => e = .returned (.int .i64 (mayE l lim t now)) ∧ Below w.heap.size w w' := by
  have HM := Lib.hid (fun w h => may_any b v l lim c now t w h hn)
  have hba : Below w.heap.size w (w.alloc (.cells #[.int .i64 t.frm, .int .i64 t.tick, .int .u64 t.rate] 34)) := (Below.refl _ w).alloc (Nat.le_refl _) _
  have HBA := Lib.hid hba
  have H := Lib.hid h
  obtain ⟨a0, a1, a2⟩ := blk3 (Blk.new w #[.int .i64 t.frm, .int .i64 t.tick, .int .u64 t.rate] 34)
  clear hba h
  generalize mayE l lim t now = m at *
  go_enter Try.func11, Try.ntmps11
  go_wp2_with fail
  refine (HM.out _ (H.out.below HBA.out)).mono ?_
  rintro e w1 ⟨rfl, hb1⟩
  have HQ := Lib.hid (bmore HBA.out hb1 HBA.out.size)
  clear hb1
  go_wp2
  go_ret
  exact ⟨rfl, HQ.out⟩

theorem keep_set3 {S : Nat → Prop} {w w1 : World} {g : Nat} (h : Keep S w w1) (hg : S g) (v0 v1 v2 : Value) (o0 o1 o2 : Nat) : Keep S w (((w1.setCell ⟨g, o0, none⟩ v0).setCell ⟨g, o1, none⟩ v1).setCell ⟨g, o2, none⟩ v2) :=
  ((h.setCell (p := ⟨g, o0, none⟩) (.inl hg) _).setCell (p := ⟨g, o1, none⟩) (.inl hg) _).setCell (p := ⟨g, o2, none⟩) (.inl hg) _
/-- what Take leaves -/
structure Tk (w w' : World) (b : Nat) (v : Value) (l : List Told) (lim c : Int) (t : Told) : Prop where
  ex : ∃ v' l', BkAt w' b v' l' lim c ∧ (∀ r, lk l' r = if r = t.frm then some t else lk l r) ∧ l'.length = (if (lk l t.frm).isSome then l.length else l.length + 1) ∧ (∀ g, v'.ownBlock = some g → v.ownBlock = some g ∨ w.heap.size ≤ g)
  kp : Keep (fun k => k = b ∨ v.ownBlock = some k) w w'

set_option maxRecDepth 100000 in
set_option maxHeartbeats 400000 in
theorem take_found (b : Nat) (v : Value) (l : List Told) (lim c now : Int) (t : Told) (w : World) (h : BkAt w b v l lim c) (hn : l.length ≤ 1000) (hm : mayE l lim t now = 0) (hs : (lk l t.frm).isSome = true) :
    Calls Try.prog 11 #[.pointer (some ⟨b, 0, none⟩), .agg #[.int .i64 t.frm, .int .i64 t.tick, .int .u64 t.rate], .int .i64 now] w fun e w' => e = .returned (.int .i64 0) ∧ Tk w w' b v l lim (tkC l c t) t := by
  have HM := Lib.hid (fun w h => may_any b v l lim c now t w h hn)
  have hba : Below w.heap.size w (w.alloc (.cells #[.int .i64 t.frm, .int .i64 t.tick, .int .u64 t.rate] 34)) := (Below.refl _ w).alloc (Nat.le_refl _) _
  have HBA := Lib.hid hba
  have H := Lib.hid h
  have HC := Lib.hid (fun w h => clr_any b v l lim c w h hn)
  have HF := Lib.hid (fun c w h => find_any b v l lim c t.frm w h hn)
  have HB := Lib.hid (Blk.new w #[.int .i64 t.frm, .int .i64 t.tick, .int .u64 t.rate] 34)
  have hbl : b < w.heap.size := h.str.lt
  obtain ⟨a0, a1, a2⟩ := blk3 HB.out
  clear hba h
  rw [hm] at HM
  rw [hs] at HF
  clear hm
  unfold tkC
  generalize gotV (lk l c) = o at *
  generalize hso : (lk l c).isSome = s at *
  have key : ∀ (u : Bool), (!s || decide (t.rate < o.rate)) = u → Calls Try.prog 11 #[.pointer (some ⟨b, 0, none⟩), .agg #[.int .i64 t.frm, .int .i64 t.tick, .int .u64 t.rate], .int .i64 now] w fun e w' => e = .returned (.int .i64 0) ∧ Tk w w' b v l lim (if u then t.frm else c) t := by
    intro u hu
    go_enter Try.func11, Try.ntmps11
    go_wp2_with fail
    refine (HM.out _ (H.out.below HBA.out)).mono ?_
    rintro e w1 ⟨rfl, hb1⟩
    have HQ1 := Lib.hid (bmore HBA.out hb1 HBA.out.size)
    have HB1 := Lib.hid (HB.out.below hb1)
    have H1 := Lib.hid ((H.out.below HBA.out).below hb1)
    have hlt : w.heap.size < w1.heap.size := by have := hb1.size; simp at this; omega
    clear hb1
    go_wp2_with fail
    refine (HC.out _ H1.out).mono ?_
    rintro e w2 ⟨rfl, hb2⟩
    have HQ2 := Lib.hid (bmore HQ1.out hb2 HQ1.out.size)
    have HB2 := Lib.hid (HB1.out.below hb2)
    have H2 := Lib.hid (H1.out.below hb2)
    have hlt2 : w.heap.size < w2.heap.size := Nat.lt_of_lt_of_le hlt hb2.size
    obtain ⟨b0, b1, b2⟩ := blk3 HB2.out
    obtain ⟨c0, c1, c2⟩ := blk3 H2.out.str
    have fr := H2.out.str.frozen 2
    have hbl2 : b < w2.heap.size := H2.out.str.lt
    have hn1 : w.heap.size ≠ b := by omega
    have hn2 : b ≠ w.heap.size := by omega
    clear hb2 a0 a1 a2
    have hA1 : ∀ ob, BkAt ((w2.setCell ⟨b, 2, none⟩ (.int .i64 t.frm)).alloc ob) b v l lim t.frm ∧ Blk ((w2.setCell ⟨b, 2, none⟩ (.int .i64 t.frm)).alloc ob) w.heap.size #[.int .i64 t.frm, .int .i64 t.tick, .int .u64 t.rate] 34 ∧ Keep (fun k => k = b ∨ v.ownBlock = some k) w ((w2.setCell ⟨b, 2, none⟩ (.int .i64 t.frm)).alloc ob) := fun ob =>
      ⟨(H2.out.setC t.frm).below ((Below.refl _ _).alloc (Nat.le_refl _) ob), (HB2.out.setOther hn1 _).alloc ob, ((Keep.ofBelowAll HQ2.out).setCell (.inl (.inl rfl)) _).alloc ob⟩
    have hA2 : ∀ ob, BkAt (w2.alloc ob) b v l lim c ∧ Blk (w2.alloc ob) w.heap.size #[.int .i64 t.frm, .int .i64 t.tick, .int .u64 t.rate] 34 ∧ Keep (fun k => k = b ∨ v.ownBlock = some k) w (w2.alloc ob) := fun ob =>
      ⟨H2.out.below ((Below.refl _ _).alloc (Nat.le_refl _) ob), HB2.out.alloc ob, (Keep.ofBelowAll HQ2.out).alloc ob⟩
    have A1 := Lib.hid hA1
    have A2 := Lib.hid hA2
    clear hA1 hA2
    cases s
    · obtain rfl : u = true := by simpa using hu.symm
      go_wp2_with fail
      refine (HF.out t.frm _ (A1.out _).1).mono ?_
      rintro e w3 ⟨p, hp, rfl, hb3⟩
      have H3 := (A1.out _).1.below hb3
      have HB3 := (A1.out _).2.1.below hb3
      have K3 := (A1.out _).2.2.trans (Keep.none hb3) (fun _ _ h => h.elim)
      clear hb3
      obtain ⟨o1, ho1⟩ := Option.isSome_iff_exists.1 hs
      have hat := hit_some H3.ris hp ho1
      have hfr := ((lk_some H3.ris).1 ho1).2
      rcases H3.row.2 with ⟨hv0, hx⟩ | ⟨g, cap, cur, hv, -⟩
      · have := (List.getElem?_eq_some_iff.1 hat).1; omega
      subst hv
      obtain ⟨x0, x1, x2⟩ := blk3 HB3
      obtain ⟨y0, y1, y2⟩ := blk3 H3.str
      obtain ⟨z0, z1, z2⟩ := H3.one hat
      have f0 := ownsRow_frozen H3.row (p * 3)
      have f1 := ownsRow_frozen H3.row (p * 3 + 1)
      have f2 := ownsRow_frozen H3.row (p * 3 + 2)
      have i1 : (0 : Int) ≤ (p : Int) := by omega
      have i2 : (p : Int) < (l.length : Int) := by have := (List.getElem?_eq_some_iff.1 hat).1; omega
      have H3' := Lib.hid (H3.setL hat hfr).drew
      have K3' := Lib.hid K3
      have HAT := Lib.hid hat
      have HP := Lib.hid hp
      have HRS := Lib.hid H3.ris
      clear H3 K3 HB3 hat hp b0 b1 b2 c0 c1 c2 fr
      go_wp2_with fail
      go_region
      go_wp2
      go_ret
      have hln : (l.set p t).length = (if (lk l t.frm).isSome then l.length else l.length + 1) := by rw [List.length_set, hs, if_pos rfl]
      refine ⟨rfl, ⟨⟨.slice (some ⟨g, 0, none⟩) l.length cap, l.set p t, ?_, fun r => set_lk HRS.out HAT.out hfr r, hln, fun g h => .inl h⟩, ?_⟩⟩
      · exact H3'.out
      · exact Keep.drew (keep_set3 K3'.out (.inr rfl) _ _ _ _ _ _)
    · cases u
      · have hu : ¬ t.rate < o.rate := by simpa using hu
        go_wp2_with fail
        refine (HF.out c _ (A2.out _).1).mono ?_
        rintro e w3 ⟨p, hp, rfl, hb3⟩
        have H3 := (A2.out _).1.below hb3
        have HB3 := (A2.out _).2.1.below hb3
        have K3 := (A2.out _).2.2.trans (Keep.none hb3) (fun _ _ h => h.elim)
        clear hb3
        obtain ⟨o1, ho1⟩ := Option.isSome_iff_exists.1 hs
        have hat := hit_some H3.ris hp ho1
        have hfr := ((lk_some H3.ris).1 ho1).2
        rcases H3.row.2 with ⟨hv0, hx⟩ | ⟨g, cap, cur, hv, -⟩
        · have := (List.getElem?_eq_some_iff.1 hat).1; omega
        subst hv
        obtain ⟨x0, x1, x2⟩ := blk3 HB3
        obtain ⟨y0, y1, y2⟩ := blk3 H3.str
        obtain ⟨z0, z1, z2⟩ := H3.one hat
        have f0 := ownsRow_frozen H3.row (p * 3)
        have f1 := ownsRow_frozen H3.row (p * 3 + 1)
        have f2 := ownsRow_frozen H3.row (p * 3 + 2)
        have i1 : (0 : Int) ≤ (p : Int) := by omega
        have i2 : (p : Int) < (l.length : Int) := by have := (List.getElem?_eq_some_iff.1 hat).1; omega
        have H3' := Lib.hid (H3.setL hat hfr).drew
        have K3' := Lib.hid K3
        have HAT := Lib.hid hat
        have HP := Lib.hid hp
        have HRS := Lib.hid H3.ris
        clear H3 K3 HB3 hat hp b0 b1 b2 c0 c1 c2 fr
        go_wp2_with fail
        go_region
        go_wp2
        go_ret
        have hln : (l.set p t).length = (if (lk l t.frm).isSome then l.length else l.length + 1) := by rw [List.length_set, hs, if_pos rfl]
        refine ⟨rfl, ⟨⟨.slice (some ⟨g, 0, none⟩) l.length cap, l.set p t, ?_, fun r => set_lk HRS.out HAT.out hfr r, hln, fun g h => .inl h⟩, ?_⟩⟩
        · exact H3'.out
        · exact Keep.drew (keep_set3 K3'.out (.inr rfl) _ _ _ _ _ _)
      · have hu : t.rate < o.rate := by simpa using hu
        go_wp2_with fail
        refine (HF.out t.frm _ (A1.out _).1).mono ?_
        rintro e w3 ⟨p, hp, rfl, hb3⟩
        have H3 := (A1.out _).1.below hb3
        have HB3 := (A1.out _).2.1.below hb3
        have K3 := (A1.out _).2.2.trans (Keep.none hb3) (fun _ _ h => h.elim)
        clear hb3
        obtain ⟨o1, ho1⟩ := Option.isSome_iff_exists.1 hs
        have hat := hit_some H3.ris hp ho1
        have hfr := ((lk_some H3.ris).1 ho1).2
        rcases H3.row.2 with ⟨hv0, hx⟩ | ⟨g, cap, cur, hv, -⟩
        · have := (List.getElem?_eq_some_iff.1 hat).1; omega
        subst hv
        obtain ⟨x0, x1, x2⟩ := blk3 HB3
        obtain ⟨y0, y1, y2⟩ := blk3 H3.str
        obtain ⟨z0, z1, z2⟩ := H3.one hat
        have f0 := ownsRow_frozen H3.row (p * 3)
        have f1 := ownsRow_frozen H3.row (p * 3 + 1)
        have f2 := ownsRow_frozen H3.row (p * 3 + 2)
        have i1 : (0 : Int) ≤ (p : Int) := by omega
        have i2 : (p : Int) < (l.length : Int) := by have := (List.getElem?_eq_some_iff.1 hat).1; omega
        have H3' := Lib.hid (H3.setL hat hfr).drew
        have K3' := Lib.hid K3
        have HAT := Lib.hid hat
        have HP := Lib.hid hp
        have HRS := Lib.hid H3.ris
        clear H3 K3 HB3 hat hp b0 b1 b2 c0 c1 c2 fr
        go_wp2_with fail
        go_region
        go_wp2
        go_ret
        have hln : (l.set p t).length = (if (lk l t.frm).isSome then l.length else l.length + 1) := by rw [List.length_set, hs, if_pos rfl]
        refine ⟨rfl, ⟨⟨.slice (some ⟨g, 0, none⟩) l.length cap, l.set p t, ?_, fun r => set_lk HRS.out HAT.out hfr r, hln, fun g h => .inl h⟩, ?_⟩⟩
        · exact H3'.out
        · exact Keep.drew (keep_set3 K3'.out (.inr rfl) _ _ _ _ _ _)
  refine (key _ rfl).mono ?_
  rintro e w' ⟨rfl, h⟩
  refine ⟨rfl, ?_⟩
  have e : (if s = false ∨ t.rate < o.rate then t.frm else c) = if (!s || decide (t.rate < o.rate)) = true then t.frm else c := by
    cases s <;> by_cases g : t.rate < o.rate <;> simp [g]
  rw [e]
  exact h
end Go.Proofs.Ythnnhagccemnnaa
