/- pipe: slices.Insert at messages, where there is room. -/
import Derived.Test.YtlodiibmofeikaaMsgIns
namespace Go.Proofs.Ytlodiibmofeikaa
open Go.RowKit
set_option linter.unusedVariables false
set_option linter.unusedSimpArgs false

theorem sizeOf_msg : ∀ w, (Go.sizeOf 102).run Try.prog w = .ok 2 w := Try.sizeOf102
theorem infos_msg : (Try.prog.info? 102).map (·.size) = some 2 := by kernel_rfl
theorem apart_msg (w : World) (vb g o lb cb : Nat) (xs cur : Array Value) (hv : Blk w vb xs 102) (hg : Blk w g cur 102) (hne : vb ≠ g) (hc : cur.size ≠ 0) :
    (callFunc 64 #[.slice (some ⟨vb, 0, none⟩) 1 1, .slice (some ⟨g, o, none⟩) lb cb]).run Try.prog w = .ok (.value (.bool false)) w := by
  have hs1 : w.shape? vb = some (102, xs.size) := by unfold Blk at hv; simp [World.shape?, hv]
  have hs2 : w.shape? g = some (102, cur.size) := by unfold Blk at hg; simp [World.shape?, hg]
  rw [run_callFunc_extern Try.func64 (by kernel_rfl) (by kernel_rfl) (by kernel_rfl) (e := Extern.SlicesOverlaps.overlaps #[96, 96] #[4]) (by kernel_rfl),
    Lib.run_overlaps_apart w 96 4 102 Try.underlying96 2 sizeOf_msg ⟨vb, 0, none⟩ ⟨g, o, none⟩ 1 1 lb cb hne 102 102 xs.size cur.size hs1 hs2 hc (hv.frozen 0) (hv.frozen _)]
  rfl
set_option maxRecDepth 100000 in
set_option maxHeartbeats 400000 in
/-- slices.Insert of one, where there is room. -/
theorem insert_room_msg (base vb g c p d : Nat) (l : List Msg) (x : Msg) (w : World) (h1 : ∀ x : Msg, ∀ v ∈ msgCells x, v.oneCell' = true) (hbig : l.length ≤ 1000000000) (hl : l.length = p + (d + 1)) (hroom : l.length + 1 ≤ c)
    (h : w.ownsRow base 102 2 (.slice (some ⟨g, 0, none⟩) l.length c) l.length (l.flatMap msgCells)) (hv : Blk w vb (msgCells x).toArray 102) (hne : vb ≠ g) :
    Calls Try.prog 62 #[.slice (some ⟨g, 0, none⟩) l.length c, .int .i64 p, .slice (some ⟨vb, 0, none⟩) 1 1] w fun e w' => e = .returned (.slice (some ⟨g, 0, none⟩) (l.length + 1) c) ∧
      w'.ownsRow base 102 2 (.slice (some ⟨g, 0, none⟩) (l.length + 1) c) (l.length + 1) ((put1 l p x).flatMap msgCells) ∧ Keep (fun k => k = g) w w' := by
  obtain ⟨cur, hb, hg, hmc, hcm, hcs, htk⟩ := ownsRow_cur h
  have hap := fun o lb cb => apart_msg w vb g o lb cb _ cur hv hg hne (by omega)
  have HAP := Lib.hid hap
  rw [hl] at h hroom htk hmc hbig ⊢
  have hcl : cur.toList.length = c * 2 := by simpa using hcs
  obtain ⟨cs, hcs0⟩ : ∃ cs, cs = (l.drop p).flatMap msgCells := ⟨_, rfl⟩
  have hcsl : cs.length = (d + 1) * 2 := by rw [hcs0, flatMap_length msgCells_len, List.length_drop, hl]; congr 1; omega
  have htp : cur.toList.take (p * 2) = (l.take p).flatMap msgCells := by
    have e := congrArg (List.take (p * 2)) htk
    rw [List.take_take, Nat.min_eq_left (by omega)] at e
    rw [e, ← List.take_append_drop p l, List.flatMap_append, List.take_left' (by rw [flatMap_length msgCells_len, List.length_take]; congr 1; omega), List.take_append_drop]
  have hcell : ∀ j u, cs[j]? = some u → w.cell? ⟨g, p * 2 + j, none⟩ = some u := fun j u hu => by
    have h' : w.ownsRow base 102 2 (.slice (some ⟨g, 0, none⟩) (p + (d + 1)) c) (p + (d + 1)) (l.flatMap msgCells) := h
    refine ownsRow_cell h' ?_
    have e1 : ((l.take p).flatMap msgCells).length = p * 2 := by rw [flatMap_length msgCells_len, List.length_take, Nat.min_eq_left (by omega)]
    have e2 : l.flatMap msgCells = (l.take p).flatMap msgCells ++ cs := by rw [hcs0, ← List.flatMap_append, List.take_append_drop]
    rw [e2, List.getElem?_append_right (by rw [e1]; omega), e1, Nat.add_sub_cancel_left]
    exact hu
  have hco : ∀ v ∈ cs, v.oneCell' = true := by rw [hcs0]; exact cells1_msg _ h1
  obtain ⟨cur1, hcur1⟩ : ∃ cur1, cur1 = (splice cur.toList ((p + 1) * 2) cs).toArray := ⟨_, rfl⟩
  have hf1 : (p + 1) * 2 + cs.length ≤ cur.toList.length := by rw [hcsl, hcl]; omega
  have hl1 : cur1.toList.length = c * 2 := by rw [hcur1]; show (splice _ _ _).length = _; rw [splice_len _ _ _ hf1, hcl]
  have hxl : (msgCells x).length = 2 := msgCells_len x
  have hf2 : p * 2 + (msgCells x).length ≤ cur1.toList.length := by rw [hxl, hl1]; omega
  obtain ⟨cur2, hcur2⟩ : ∃ cur2, cur2 = (splice cur1.toList (p * 2) (msgCells x)).toArray := ⟨_, rfl⟩
  have hl2 : cur2.toList.length = c * 2 := by rw [hcur2]; show (splice _ _ _).length = _; rw [splice_len _ _ _ hf2, hl1]
  have ht2 : cur2.toList.take ((p + (d + 1) + 1) * 2) = (put1 l p x).flatMap msgCells := by
    have e1 : (put1 l p x).flatMap msgCells = (l.take p).flatMap msgCells ++ (msgCells x ++ cs) := by unfold put1; rw [List.flatMap_append, List.flatMap_cons, hcs0]
    rw [e1, ← htp, hcur2]
    show (splice cur1.toList (p * 2) (msgCells x)).take _ = _
    unfold splice
    rw [hxl, hcur1]
    show (((splice cur.toList ((p + 1) * 2) cs).take (p * 2)) ++ (msgCells x ++ (splice cur.toList ((p + 1) * 2) cs).drop (p * 2 + 2))).take _ = _
    have e2 : (splice cur.toList ((p + 1) * 2) cs).take (p * 2) = cur.toList.take (p * 2) := by
      unfold splice
      rw [List.take_append_of_le_length (by rw [List.length_take, hcl]; omega), List.take_take, Nat.min_eq_left (by omega)]
    have e3 : (splice cur.toList ((p + 1) * 2) cs).drop (p * 2 + 2) = cs ++ cur.toList.drop ((p + 1) * 2 + cs.length) := by
      unfold splice
      rw [show p * 2 + 2 = (p + 1) * 2 by omega, List.drop_left' (by rw [List.length_take, hcl]; omega)]
    rw [e2, e3, ← List.append_assoc, ← List.append_assoc, List.take_left' (by simp only [List.length_append, List.length_take, hcl, hxl, hcsl]; omega), List.append_assoc]
  have HFIN : Hid (∀ W : World, Blk W g cur2 102 → W.ownsRow base 102 2 (.slice (some ⟨g, 0, none⟩) (p + (d + 1) + 1) c) (p + (d + 1) + 1) ((put1 l p x).flatMap msgCells)) := fun W hW =>
    ownsRow_of cur2 hb hW (by omega) hcm (by rw [← hl2]; simp) ht2 (by rw [← ht2, List.length_take]; omega)
  have HCELL : Hid (∀ j u, cs[j]? = some u → w.drew.cell? (Addr.add ⟨g, p * 2, none⟩ j) = some u) := fun j u hu => by
    have e : (⟨g, p * 2, none⟩ : Addr).add j = ⟨g, p * 2 + j, none⟩ := by unfold Addr.add; split <;> simp_all
    rw [e]; exact hcell j u hu
  have HCP1 : Hid ((Builtin.copy_ #[96, 96] 3 #[.slice (some ⟨g, (p + 1) * 2, none⟩) (d + 1) (c - (p + 1)), .slice (some ⟨g, p * 2, none⟩) (p + (d + 1) + 1 - p) (c - p)]).run Try.prog w.drew = .ok (goInt (Nat.min (p + (d + 1) + 1 - p) (d + 1))) (w.drew.setRow g cur1)) := by
    have e := run_copyN (P := Try.prog) w.drew 96 96 3 102 g ((p + 1) * 2) (d + 1) (c - (p + 1)) ⟨g, p * 2, none⟩ (p + (d + 1) + 1 - p) (c - p) cur 102 cs 2 Try.underlying96 infos_msg hg (by rw [hcsl]; congr 1; exact (Nat.min_eq_right (by omega)).symm) HCELL.out (by simpa using hf1) hco
    rw [hcur1]; exact e
  have HCP2 : Hid (∀ W : World, Blk W g cur1 102 → Blk W vb (msgCells x).toArray 102 → (Builtin.copy_ #[96, 96] 3 #[.slice (some ⟨g, p * 2, none⟩) (p + (d + 1) + 1 - p) (c - p), .slice (some ⟨vb, 0, none⟩) 1 1]).run Try.prog W = .ok (goInt (Nat.min 1 (p + (d + 1) + 1 - p))) (W.setRow g cur2)) := fun W hW hWv => by
    have e := run_copyN (P := Try.prog) W 96 96 3 102 g (p * 2) (p + (d + 1) + 1 - p) (c - p) ⟨vb, 0, none⟩ 1 1 cur1 102 (msgCells x) 2 Try.underlying96 infos_msg hW (by rw [hxl, show Nat.min 1 (p + (d + 1) + 1 - p) = 1 from Nat.min_eq_left (by omega)]) (hWv.cellsAt' 0 _ (fun j v hj => by simpa using hj)) (by simpa using hf2) (h1 x)
    rw [hcur2]; exact e
  have HG := Lib.hid hg
  have HV := Lib.hid hv
  have i1 : (0 : Int) ≤ (p : Int) := by omega
  have i2 : (p : Int) ≤ (p : Int) + ((d : Int) + 1) := by omega
  have i3 : (p : Int) + ((d : Int) + 1) ≤ (c : Int) := by omega
  have i4 : ((p : Int) == (p : Int) + ((d : Int) + 1)) = false := by rw [beq_eq_false_iff_ne]; omega
  have i5 : (p : Int) + ((d : Int) + 1) + 1 ≤ (c : Int) := by omega
  have i6 : ¬ (c = p) := by omega
  have i7 : ¬ (c = p + 1) := by omega
  have i8 : (p : Int) + 1 ≤ (p : Int) + ((d : Int) + 1) + 1 := by omega
  have i9 : (0 : Int) ≤ (p : Int) + 1 := by omega
  have i10 : ((p : Int) + 1).toNat = p + 1 := by omega
  have i11 : ((p : Int) + ((d : Int) + 1) + 1).toNat = p + (d + 1) + 1 := by omega
  have i12 : (p : Int) ≤ (p : Int) + ((d : Int) + 1) + 1 := by omega
  have i14 : (0 : Int) ≤ (p : Int) + ((d : Int) + 1) + 1 := by omega
  have hq := hap ((p + 1) * 2) (d + 1) (c - (p + 1))
  clear hap HAP hl h hroom htk hmc hcm hb hcs hcl hcs0 hcsl htp hcell hco hcur1 hf1 hl1 hxl hf2 hcur2 hl2 ht2 hg hv h1
  go_enter Try.func62, Try.ntmps62
  go_wp2_with fail
  have wk : IntKind.i64.wrap ((p : Int) + 1) = (p : Int) + 1 := IntWalk.i64_in _ (by omega)
  go_region_held3 (fun _ => True) (trivial)
    (first
      | (refine step_run rfl (.tmp 73) (.tmp 76) _ _ .copy Builtin.copy_ bcopy rfl (.slice (some ⟨g, (p + 1) * 2, none⟩) (d + 1) (c - (p + 1))) (.slice (some ⟨g, p * 2, none⟩) (p + (d + 1) + 1 - p) (c - p)) rfl rfl _ _ HCP1.out ?_; obtain ⟨W1, hW1⟩ : ∃ W1, W1 = w.drew.setRow g cur1 := ⟨_, rfl⟩; rw [← hW1]; have HW1 := Lib.hid hW1; clear hW1))
  clear wk
  have HB1 : Hid (Blk W1 g cur1 102) := by show Blk _ _ _ _; rw [HW1.out]; exact setRow_heap w.drew g cur _ 102 _ HG.out
  have HK1 : Hid (Keep (fun k => k = g) w W1) := by show Keep _ _ _; rw [HW1.out]; exact ((Keep.refl (fun k => k = g) w).drew).setRow (.inl rfl) _
  have HV1 : Hid (Blk W1 vb (msgCells x).toArray 102) := HV.out.keep HK1.out hne
  go_wp2_with (with_reducible refine wpList_run rfl (.tmp 80) (.tmp 81) _ _ .copy Builtin.copy_ bcopy rfl (.slice (some ⟨g, p * 2, none⟩) (p + (d + 1) + 1 - p) (c - p)) (.slice (some ⟨vb, 0, none⟩) 1 1) rfl rfl _ _ (HCP2.out W1 HB1.out HV1.out) ?_)
  obtain ⟨W2, hW2⟩ : ∃ W2, W2 = W1.setRow g cur2 := ⟨_, rfl⟩
  rw [← hW2]
  have HW2 := Lib.hid hW2
  clear hW2
  go_wp2
  go_ret
  refine ⟨rfl, HFIN.out _ ?_, ?_⟩
  · rw [HW2.out]; exact setRow_heap W1 g cur1 _ 102 _ HB1.out
  · rw [HW2.out]; exact HK1.out.setRow (.inl rfl) _

end Go.Proofs.Ytlodiibmofeikaa
