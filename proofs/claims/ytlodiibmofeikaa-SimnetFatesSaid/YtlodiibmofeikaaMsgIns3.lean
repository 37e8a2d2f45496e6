/- pipe: slices.Insert at messages. -/
import Derived.Test.YtlodiibmofeikaaMsgIns2
namespace Go.Proofs.Ytlodiibmofeikaa
open Go.RowKit
set_option linter.unusedVariables false
set_option linter.unusedSimpArgs false

set_option maxRecDepth 100000 in
set_option maxHeartbeats 400000 in
/-- slices.Insert of one, where there is no room. -/
theorem insert_grow_msg (base vb g p d : Nat) (l : List Msg) (x : Msg) (w : World) (h1 : ∀ x : Msg, ∀ v ∈ msgCells x, v.oneCell' = true) (hbig : l.length ≤ 1000000000) (hl : l.length = p + (d + 1)) (hbase : base ≤ w.heap.size)
    (h : w.ownsRow base 102 2 (.slice (some ⟨g, 0, none⟩) l.length l.length) l.length (l.flatMap msgCells)) (hv : Blk w vb (msgCells x).toArray 102) :
    Calls Try.prog 62 #[.slice (some ⟨g, 0, none⟩) l.length l.length, .int .i64 p, .slice (some ⟨vb, 0, none⟩) 1 1] w fun e w' => ∃ c', e = .returned (.slice (some ⟨w.heap.size, 0, none⟩) (l.length + 1) c') ∧
      w'.ownsRow base 102 2 (.slice (some ⟨w.heap.size, 0, none⟩) (l.length + 1) c') (l.length + 1) ((put1 l p x).flatMap msgCells) ∧ Below w.heap.size w w' := by
  obtain ⟨cur, hb, hg, hmc, hcm, hcs, htk⟩ := ownsRow_cur h
  obtain ⟨i0, hi, hz0, hz1, hz2⟩ := info_parts info_msg
  rw [hl] at h htk hmc hbig hcs ⊢
  have hgl := hg.lt
  obtain ⟨cs, hcs0⟩ : ∃ cs, cs = (l.drop p).flatMap msgCells := ⟨_, rfl⟩
  have hcsl : cs.length = (d + 1) * 2 := by rw [hcs0, flatMap_length msgCells_len, List.length_drop, hl]; congr 1; omega
  obtain ⟨old, hold⟩ : ∃ old, old = (l.take p).flatMap msgCells := ⟨_, rfl⟩
  have hol : old.length = p * 2 := by rw [hold, flatMap_length msgCells_len, List.length_take, Nat.min_eq_left (by omega)]
  have e2 : l.flatMap msgCells = old ++ cs := by rw [hold, hcs0, ← List.flatMap_append, List.take_append_drop]
  have hco : ∀ v ∈ cs, v.oneCell' = true := by rw [hcs0]; exact cells1_msg _ h1
  have hcell : ∀ j u, cs[j]? = some u → w.cell? ⟨g, p * 2 + j, none⟩ = some u := fun j u hu => by
    refine ownsRow_cell h ?_
    rw [e2, List.getElem?_append_right (by rw [hol]; omega), hol, Nat.add_sub_cancel_left]
    exact hu
  have hcello : ∀ j u, old[j]? = some u → w.cell? (Addr.add ⟨g, 0, none⟩ j) = some u := fun j u hu => by
    have hj : j < old.length := (List.getElem?_eq_some_iff.1 hu).1
    have e : (⟨g, 0, none⟩ : Addr).add j = ⟨g, j, none⟩ := by unfold Addr.add; split <;> simp_all
    rw [e]
    refine ownsRow_cell h ?_
    rw [e2, List.getElem?_append_left hj]
    exact hu
  obtain ⟨c', rest, hc1, hc2, hrl, hzg⟩ := run_append_zg (P := Try.prog) w 96 3 96 102 i0 _ .i64 .i64 Try.underlying96 Try.underlying3 hi hz0 hz1 rfl ⟨g, 0, none⟩ p (p + (d + 1)) old hol hcello (d + 2) (by omega) (by decide) (by omega) (by omega) (by rw [hz2]; decide)
  have e9 : ((d + 2 : Nat) : Int) = (p : Int) + ((d : Int) + 1) + 1 - (p : Int) := by omega
  rw [e9] at hzg
  have HZG := Lib.hid hzg
  obtain ⟨cur0, hcur0⟩ : ∃ cur0, cur0 = (old ++ rest).toArray := ⟨_, rfl⟩
  have hl0 : cur0.toList.length = c' * 2 := by rw [hcur0]; show (old ++ rest).length = _; rw [List.length_append, hol, hrl]; omega
  have hxl : (msgCells x).length = 2 := msgCells_len x
  have hf1 : p * 2 + (msgCells x).length ≤ cur0.toList.length := by rw [hxl, hl0]; omega
  obtain ⟨cur1, hcur1⟩ : ∃ cur1, cur1 = (splice cur0.toList (p * 2) (msgCells x)).toArray := ⟨_, rfl⟩
  have hl1 : cur1.toList.length = c' * 2 := by rw [hcur1]; show (splice _ _ _).length = _; rw [splice_len _ _ _ hf1, hl0]
  have hf2 : (p + 1) * 2 + cs.length ≤ cur1.toList.length := by rw [hcsl, hl1]; omega
  obtain ⟨cur2, hcur2⟩ : ∃ cur2, cur2 = (splice cur1.toList ((p + 1) * 2) cs).toArray := ⟨_, rfl⟩
  have hl2 : cur2.toList.length = c' * 2 := by rw [hcur2]; show (splice _ _ _).length = _; rw [splice_len _ _ _ hf2, hl1]
  have ht2 : cur2.toList.take ((p + (d + 1) + 1) * 2) = (put1 l p x).flatMap msgCells := by
    have e1 : (put1 l p x).flatMap msgCells = old ++ (msgCells x ++ cs) := by unfold put1; rw [List.flatMap_append, List.flatMap_cons, hcs0, hold]
    rw [e1, hcur2, show (p + (d + 1) + 1) * 2 = (p + 1) * 2 + cs.length by rw [hcsl]; omega]
    show (splice cur1.toList ((p + 1) * 2) cs).take _ = _
    rw [splice_take _ _ _ hf2, hcur1]
    show (splice cur0.toList (p * 2) (msgCells x)).take ((p + 1) * 2) ++ cs = _
    rw [show (p + 1) * 2 = p * 2 + (msgCells x).length by rw [hxl]; omega, splice_take _ _ _ hf1, hcur0]
    show (old ++ rest).take (p * 2) ++ msgCells x ++ cs = _
    rw [List.take_left' hol, List.append_assoc]
  obtain ⟨G, hG⟩ : ∃ G, G = w.heap.size := ⟨_, rfl⟩
  have HFIN : Hid (∀ W : World, Blk W G cur2 102 → W.ownsRow base 102 2 (.slice (some ⟨G, 0, none⟩) (p + (d + 1) + 1) c') (p + (d + 1) + 1) ((put1 l p x).flatMap msgCells)) := fun W hW =>
    ownsRow_of cur2 (by omega) hW (by omega) hc2 (by rw [← hl2]; simp) ht2 (by rw [← ht2, List.length_take]; omega)
  have HCP1 : Hid (∀ W : World, Blk W G cur0 102 → Blk W vb (msgCells x).toArray 102 → (Builtin.copy_ #[96, 96] 3 #[.slice (some ⟨G, p * 2, none⟩) (d + 2) (c' - p), .slice (some ⟨vb, 0, none⟩) 1 1]).run Try.prog W = .ok (goInt (Nat.min 1 (d + 2))) (W.setRow G cur1)) := fun W hW hWv => by
    have e := run_copyN (P := Try.prog) W 96 96 3 102 G (p * 2) (d + 2) (c' - p) ⟨vb, 0, none⟩ 1 1 cur0 102 (msgCells x) 2 Try.underlying96 infos_msg hW (by rw [hxl, show Nat.min 1 (d + 2) = 1 from Nat.min_eq_left (by omega)]) (hWv.cellsAt' 0 _ (fun j v hj => by simpa using hj)) (by simpa using hf1) (h1 x)
    rw [hcur1]; exact e
  have HCP2 : Hid (∀ W : World, Blk W G cur1 102 → (∀ j u, cs[j]? = some u → W.cell? (Addr.add ⟨g, p * 2, none⟩ j) = some u) → (Builtin.copy_ #[96, 96] 3 #[.slice (some ⟨G, (p + 1) * 2, none⟩) (p + (d + 2) - (p + 1)) (c' - (p + 1)), .slice (some ⟨g, p * 2, none⟩) (d + 1) (d + 1)]).run Try.prog W = .ok (goInt (Nat.min (d + 1) (p + (d + 2) - (p + 1)))) (W.setRow G cur2)) := fun W hW hWc => by
    have e := run_copyN (P := Try.prog) W 96 96 3 102 G ((p + 1) * 2) (p + (d + 2) - (p + 1)) (c' - (p + 1)) ⟨g, p * 2, none⟩ (d + 1) (d + 1) cur1 102 cs 2 Try.underlying96 infos_msg hW (by rw [hcsl]; congr 1; exact (Nat.min_eq_left (by omega)).symm) hWc (by simpa using hf2) hco
    rw [hcur2]; exact e
  have HCELL : Hid (∀ j u, cs[j]? = some u → w.cell? (Addr.add ⟨g, p * 2, none⟩ j) = some u) := fun j u hu => by
    have e : (⟨g, p * 2, none⟩ : Addr).add j = ⟨g, p * 2 + j, none⟩ := by unfold Addr.add; split <;> simp_all
    rw [e]; exact hcell j u hu
  have HV := Lib.hid hv
  have HGe := Lib.hid hG
  have HL := Lib.hid hcur0
  have hvl := hv.lt
  have i1 : (0 : Int) ≤ (p : Int) := by omega
  have i2 : (p : Int) ≤ (p : Int) + ((d : Int) + 1) := by omega
  have i3 : (0 : Int) ≤ (p : Int) + 1 := by omega
  have i4 : ((p : Int) == (p : Int) + ((d : Int) + 1)) = false := by rw [beq_eq_false_iff_ne]; omega
  have i5 : (p : Int) ≤ (p : Int) + ((d : Int) + 2) := by omega
  have i6 : ¬ (p + (d + 1) = p) := by omega
  have i7 : ¬ (c' = p) := by omega
  have i8 : ¬ (c' = p + 1) := by omega
  have i9 : (p : Int) + 1 ≤ (p : Int) + ((d : Int) + 2) := by omega
  have i10 : ((p : Int) + 1).toNat = p + 1 := by omega
  clear hzg e9 h1 hl h hv hb hg hmc hcm hcs htk hcs0 hcsl hold hol e2 hco hcell hcello hrl hcur0 hl0 hxl hf1 hcur1 hl1 hf2 hcur2 hl2 ht2 hG hbase
  rw [← HGe.out] at HZG ⊢
  go_enter Try.func62, Try.ntmps62
  go_wp2_with (first
    | ((with_reducible refine wpList_run rfl (.tmp 34) (.tmp 39) _ _ .append Builtin.append_ bappend rfl (.slice (some ⟨g, 0, none⟩) p (p + (d + 1))) (.int .i64 ((p : Int) + ((d : Int) + 1) + 1 - (p : Int))) rfl rfl _ _ HZG.out ?_); obtain ⟨W0, hW0⟩ : ∃ W0, W0 = w.drew.alloc (.cells (old ++ rest).toArray 102) := ⟨_, rfl⟩; rw [← hW0]; have HB0 : Hid (Blk W0 G cur0 102) := (by show Blk _ _ _ _; rw [hW0, HGe.out, HL.out]; exact heap_alloc_new w.drew _); have HQ0 : Hid (Below w.heap.size w W0) := (by show Below _ _ _; rw [hW0]; exact (below_drewN (Below.refl _ w) 1).alloc (Nat.le_refl _) _); have HV0 : Hid (Blk W0 vb (msgCells x).toArray 102) := HV.out.keep (Keep.none HQ0.out) id; clear hW0)
    | ((with_reducible refine wpList_run rfl (.tmp 43) (.tmp 44) _ _ .copy Builtin.copy_ bcopy rfl (.slice (some ⟨G, p * 2, none⟩) (d + 2) (c' - p)) (.slice (some ⟨vb, 0, none⟩) 1 1) rfl rfl _ _ (HCP1.out W0 HB0.out HV0.out) ?_); obtain ⟨W1, hW1⟩ : ∃ W1, W1 = W0.setRow G cur1 := ⟨_, rfl⟩; rw [← hW1]; have HB1 : Hid (Blk W1 G cur1 102) := (by show Blk _ _ _ _; rw [hW1]; exact setRow_heap W0 G cur0 _ 102 _ HB0.out); have HQ1 : Hid (Below w.heap.size w W1) := (by show Below _ _ _; rw [hW1]; exact bkeep HQ0.out ((Keep.refl (fun k => k = G) W0).setRow (.inl rfl) _) (Nat.le_refl _) (fun k hk => by have := HGe.out; omega)); clear hW1))
  have HC1 : Hid (∀ j u, cs[j]? = some u → W1.drew.cell? (Addr.add ⟨g, p * 2, none⟩ j) = some u) := fun j u hu => by
    have e : (⟨g, p * 2, none⟩ : Addr).add j = ⟨g, p * 2 + j, none⟩ := by unfold Addr.add; split <;> simp_all
    have h := HCELL.out j u hu
    rw [e] at h ⊢
    exact (((Keep.none HQ1.out).drewN 1).cell (p := ⟨g, p * 2 + j, none⟩) hgl id).trans h
  have wk : IntKind.i64.wrap ((p : Int) + 1) = (p : Int) + 1 := IntWalk.i64_in _ (by omega)
  go_region_held3 (fun _ => True) (trivial)
    (first
      | (refine step_run rfl (.tmp 50) (.tmp 53) _ _ .copy Builtin.copy_ bcopy rfl (.slice (some ⟨G, (p + 1) * 2, none⟩) (p + (d + 2) - (p + 1)) (c' - (p + 1))) (.slice (some ⟨g, p * 2, none⟩) (d + 1) (d + 1)) rfl rfl _ _ (HCP2.out W1.drew HB1.out HC1.out) ?_; obtain ⟨W2, hW2⟩ : ∃ W2, W2 = W1.drew.setRow G cur2 := ⟨_, rfl⟩; rw [← hW2]; have HW2 := Lib.hid hW2; clear hW2))
  clear wk
  go_wp2
  go_ret
  refine ⟨c', rfl, HFIN.out _ ?_, ?_⟩
  · rw [HW2.out]; exact setRow_heap W1.drew G cur1 _ 102 _ HB1.out
  · rw [HW2.out]
    have h : Below w.heap.size w (W1.drew.setRow G cur2) := bkeep (below_drewN HQ1.out 1) ((Keep.refl (fun k => k = G) W1.drew).setRow (.inl rfl) _) (Nat.le_refl _) (fun k hk => by have := HGe.out; omega)
    rw [← HGe.out] at h
    exact h

/-- slices.Insert of one. -/
theorem insert_msg (base vb p : Nat) (v : Value) (l : List Msg) (x : Msg) (w : World) (h1 : ∀ x : Msg, ∀ v ∈ msgCells x, v.oneCell' = true) (hp : p ≤ l.length) (hbig : l.length ≤ 1000000000) (hbase : base ≤ w.heap.size)
    (h : w.ownsRow base 102 2 v l.length (l.flatMap msgCells)) (hv : Blk w vb (msgCells x).toArray 102) (hne : v.ownBlock ≠ some vb) :
    Calls Try.prog 62 #[v, .int .i64 p, .slice (some ⟨vb, 0, none⟩) 1 1] w fun e w' => ∃ A c, e = .returned (.slice A (l.length + 1) c) ∧
      w'.ownsRow base 102 2 (.slice A (l.length + 1) c) (l.length + 1) ((put1 l p x).flatMap msgCells) ∧ Keep (fun k => v.ownBlock = some k) w w' ∧ (∀ g, (Value.slice A (l.length + 1) c).ownBlock = some g → v.ownBlock = some g ∨ w.heap.size ≤ g) := by
  by_cases he : p = l.length
  · subst he
    exact insert_end_msg base vb v l x w h1 hbig hbase h hv
  · obtain ⟨d, hd⟩ : ∃ d, l.length = p + (d + 1) := ⟨l.length - p - 1, by omega⟩
    rcases h.2 with ⟨hv0, hx⟩ | ⟨g, cap, cur, rfl, hg, hh, hc1, hc2, hc3, hc4⟩
    · omega
    · by_cases hr : l.length + 1 ≤ cap
      · refine (insert_room_msg base vb g cap p d l x w h1 hbig hd hr h hv (fun e => hne (by subst e; rfl))).mono ?_
        rintro e w' ⟨rfl, ho, hk⟩
        exact ⟨_, _, rfl, ho, hk.mono (fun k _ e => by subst e; rfl), fun g' hg' => .inl hg'⟩
      · obtain rfl : cap = l.length := by omega
        refine (insert_grow_msg base vb g p d l x w h1 hbig hd hbase h hv).mono ?_
        rintro e w' ⟨c', rfl, ho, hb⟩
        exact ⟨_, _, rfl, ho, Keep.ofBelowAll hb, fun g' hg' => by cases hg'; exact .inr (Nat.le_refl _)⟩

end Go.Proofs.Ytlodiibmofeikaa
