/- pipe: Put. -/
import Derived.Test.YtlodiibmofeikaaPipe
import Derived.Test.YtlodiibmofeikaaHeldChain
namespace Go.Proofs.Ytlodiibmofeikaa
open Go.RowKit
set_option linter.unusedVariables false
set_option linter.unusedSimpArgs false

theorem u8s_one (l : List Int) : ∀ u ∈ u8s l, u.oneCell' = true := by
  intro u hu
  obtain ⟨x, -, rfl⟩ := List.mem_map.1 hu
  rfl
theorem put1_mem {l : List Msg} {t x : Msg} {p : Nat} : x ∈ put1 l p t ↔ x = t ∨ x ∈ l := by
  unfold put1
  rw [List.mem_append, List.mem_cons]
  constructor
  · rintro (h | h | h)
    · exact .inr (List.mem_of_mem_take h)
    · exact .inl h
    · exact .inr (List.mem_of_mem_drop h)
  · rintro (h | h)
    · exact .inr (.inl h)
    · rw [← List.take_append_drop p l, List.mem_append] at h
      rcases h with h | h
      · exact .inl h
      · exact .inr (.inr h)
section
variable {R G : Nat → Prop} {w w1 w2 w4 : World} {b n c2 c4 k : Nat} {A A2 A4 : Option Addr} {l : List Msg} {room due : Int} {bs : List Int} {p : Nat}
theorem put_keep (h : PAt R w1 G b (.slice A l.length k) l room) (hb1 : Below w.heap.size w w1) (hb2 : Below w1.heap.size w1 w2)
    (hk4 : Keep (fun q => (Value.slice A l.length k).ownBlock = some q) (w2.alloc (.cells (msgCells ⟨due, A2, n, c2, bs⟩).toArray 102)) w4) :
    Keep G w (w4.setCell ⟨b, 1, none⟩ (.slice A4 (l.length + 1) c4)) := by
  have h1 : Keep G w (w2.alloc (.cells (msgCells ⟨due, A2, n, c2, bs⟩).toArray 102)) := (Keep.ofBelowAll (bmore hb1 hb2 hb1.size)).alloc _
  exact (h1.trans hk4 (fun q _ hq => h.gv q hq)).setCell (p := ⟨b, 1, none⟩) (.inl h.gb) _
theorem put_pat (h : PAt R w1 G b (.slice A l.length k) l room) (hb1 : Below w.heap.size w w1)
    (ho2 : w2.ownsRow w1.heap.size 5 1 (.slice A2 n c2) n (u8s bs)) (hb2 : Below w1.heap.size w1 w2) (hb : bs.length = n) (hn : n ≤ 320)
    (ho4 : w4.ownsRow 0 102 2 (.slice A4 (l.length + 1) c4) (l.length + 1) ((put1 l p ⟨due, A2, n, c2, bs⟩).flatMap msgCells))
    (hk4 : Keep (fun q => (Value.slice A l.length k).ownBlock = some q) (w2.alloc (.cells (msgCells ⟨due, A2, n, c2, bs⟩).toArray 102)) w4)
    (hn4 : ∀ g, (Value.slice A4 (l.length + 1) c4).ownBlock = some g → (Value.slice A l.length k).ownBlock = some g ∨ (w2.alloc (.cells (msgCells ⟨due, A2, n, c2, bs⟩).toArray 102)).heap.size ≤ g) :
    PAt R (w4.setCell ⟨b, 1, none⟩ (.slice A4 (l.length + 1) c4)) (fun q => G q ∨ w.heap.size ≤ q) b (.slice A4 (l.length + 1) c4) (put1 l p ⟨due, A2, n, c2, bs⟩) room := by
  obtain ⟨w3, hw3⟩ : ∃ w3, w3 = w2.alloc (.cells (msgCells ⟨due, A2, n, c2, bs⟩).toArray 102) := ⟨_, rfl⟩
  have hb3 : Below w2.heap.size w2 w3 := by rw [hw3]; exact (Below.refl _ w2).alloc (Nat.le_refl _) _
  have hz3 : w3.heap.size = w2.heap.size + 1 := by rw [hw3]; simp
  rw [← hw3] at hk4 hn4
  have h2 := h.below hb2
  have h3 := h2.below hb3
  have hlen : (put1 l p ⟨due, A2, n, c2, bs⟩).length = l.length + 1 := by
    have h5 := ho4.1
    rw [flatMap_length msgCells_len] at h5
    omega
  have hs4 := h3.str.keep hk4 (fun e => (h3.ne e).1 rfl)
  have hk5 : Keep (fun q => q = b) w4 (w4.setCell ⟨b, 1, none⟩ (.slice A4 (l.length + 1) c4)) := (Keep.refl (fun q => q = b) w4).setCell (p := ⟨b, 1, none⟩) (.inl rfl) _
  have hbl : b < w1.heap.size := h.str.lt
  have hnb : ∀ g, (Value.slice A4 (l.length + 1) c4).ownBlock = some g → g ≠ b := fun g hg e => by
    rcases hn4 g hg with x | x
    · exact (h3.ne x).1 e
    · have := hb2.size; omega
  refine ⟨hs4.set' rfl, ?_, fun m hm => ?_, .inl h.gb, fun g hg => ?_⟩
  · rw [hlen]
    exact ownsRow_keep ho4 hk5 (fun g hg e => hnb g hg e)
  · rcases put1_mem.1 hm with rfl | hm
    · have h5 : MsgOk w2 (fun q => w1.heap.size ≤ q ∧ q < w2.heap.size) ⟨due, A2, n, c2, bs⟩ := ⟨ownsRow_base ho2 (Nat.zero_le _), hb, hn, fun g hg => ho2.lt g hg⟩
      have h6 := ((h5.keep (Keep.none hb3) (fun _ _ => id)).keep hk4 (fun q hq e => by have := (h.ne e).2; omega)).keep hk5 (fun q hq e => by omega)
      refine h6.mono (fun q hq _ => ⟨.inl (.inr (by have := hb1.size; omega)), by omega, fun e => ?_⟩)
      rcases hn4 q e with x | x
      · have := (h.ne x).2; omega
      · omega
    · have h5 := h.by' m hm
      have h6 : MsgOk w1 (fun q => ((G q ∨ R q) ∧ q ≠ b ∧ (Value.slice A l.length k).ownBlock ≠ some q) ∧ q < w1.heap.size) m := h5.mono (fun q hq hl => ⟨hq, hl⟩)
      have h7 := (((h6.keep (Keep.none hb2) (fun _ _ => id)).keep (Keep.none hb3) (fun _ _ => id)).keep hk4 (fun q hq e => hq.1.2.2 e)).keep hk5 (fun q hq e => hq.1.2.1 e)
      refine h7.mono (fun q hq _ => ⟨hq.1.1.imp .inl id, hq.1.2.1, fun e => ?_⟩)
      rcases hn4 q e with x | x
      · exact hq.1.2.2 x
      · have := hb2.size; omega
  · rcases hn4 g hg with x | x
    · exact .inl (h.gv g x)
    · exact .inr (by have := hb1.size; have := hb2.size; omega)
end
set_option maxRecDepth 100000 in
theorem put_range {G : Nat → Prop} (b : Nat) (v : Value) (l : List Msg) (room due : Int) (A : Option Addr) (n c : Nat) (w : World) (h : due < 0 ∨ 2199023255552 < due ∨ 320 < n) :
    Calls Try.prog 56 #[.pointer (some ⟨b, 0, none⟩), .int .i64 due, .slice A n c] w fun e w' => e = .returned (.int .i64 11) ∧ w = w' := by
  rcases (by omega : due < 0 ∨ (¬ due < 0 ∧ 2199023255552 < due) ∨ (¬ due < 0 ∧ ¬ 2199023255552 < due ∧ 320 < n)) with g | ⟨g, g'⟩ | ⟨g, g', g''⟩
  all_goals
    clear h
    go_enter Try.func56, Try.ntmps56
    go_wp2
    go_ret
    exact ⟨rfl, rfl⟩
set_option maxRecDepth 100000 in
theorem put_full {R : Nat → Prop} {G : Nat → Prop} (b : Nat) (v : Value) (l : List Msg) (room due : Int) (A : Option Addr) (n c : Nat) (w : World) (h : PAt R w G b v l room) (hn : l.length ≤ 1000000) (hr : 0 ≤ room ∧ room ≤ 1000) (h1 : 0 ≤ due) (h2 : due ≤ 2199023255552) (h3 : n ≤ 320) (hf : room ≤ l.length) :
    Calls Try.prog 56 #[.pointer (some ⟨b, 0, none⟩), .int .i64 due, .slice A n c] w fun e w' => e = .returned (.int .i64 15) ∧ Below w.heap.size w w' := by
  have HR := Lib.hid (room_any b v l room w h hn hr)
  have g1 : room - (l.length : Int) < 1 := by omega
  clear h
  go_enter Try.func56, Try.ntmps56
  go_wp2_with fail
  refine HR.out.mono ?_
  rintro e w1 ⟨rfl, hb1⟩
  go_wp2
  go_ret
  exact ⟨rfl, hb1⟩
set_option maxRecDepth 100000 in
set_option maxHeartbeats 2000000 in
theorem put_ok {R : Nat → Prop} {G : Nat → Prop} (b : Nat) (v : Value) (l : List Msg) (room due : Int) (A0 : Option Addr) (n c : Nat) (bs : List Int) (w : World) (h : PAt R w G b v l room) (hn : l.length ≤ 1000000) (hr : 0 ≤ room ∧ room ≤ 1000) (h1 : 0 ≤ due) (h2 : due ≤ 2199023255552) (h3 : n ≤ 320) (hf : (l.length : Int) < room)
    (hx : Reads w 1 (.slice A0 n c) n (u8s bs)) (hb : bs.length = n) :
    Calls Try.prog 56 #[.pointer (some ⟨b, 0, none⟩), .int .i64 due, .slice A0 n c] w fun e w' => e = .returned (.int .i64 0) ∧ ∃ v' m, PAt R w' (fun q => G q ∨ w.heap.size ≤ q) b v' (put1 l (dueN l due) m) room ∧ m.due = due ∧ m.bs = bs ∧ m.n = n ∧ Keep G w w' := by
  have hrm := room_any b v l room w h hn hr
  obtain ⟨A, k, rfl⟩ := h.slice
  obtain ⟨wr, hwr⟩ : ∃ wr, wr = w := ⟨_, rfl⟩
  have HRM := Lib.hid hrm
  have H0 := Lib.hid h
  have HX0 := Lib.hid hx
  have g1 : ¬ room - (l.length : Int) < 1 := by omega
  have g3 : ¬ due < 0 := by omega
  have g4 : ¬ 2199023255552 < due := by omega
  clear h hx hrm hwr
  go_enter Try.func56, Try.ntmps56
  go_wp2_with fail
  refine HRM.out.mono ?_
  rintro e w0 ⟨rfl, hb0⟩
  have HB0 := Lib.hid hb0
  have H := Lib.hid (H0.out.below hb0)
  have HX := Lib.hid (HX0.out.below hb0)
  clear hb0 HRM
  have HW : Hid (PAt R w0.drew G b (.slice A l.length k) l room) := H.out.below (below_drewN (Below.refl _ w0) 1)
  have HXW : Hid (Reads w0.drew 1 (.slice A0 n c) n (u8s bs)) := HX.out.below (below_drewN (Below.refl _ w0) 1)
  have HBW : Hid (Below w.heap.size w w0.drew) := bmore HB0.out (below_drewN (Below.refl _ w0) 1) HB0.out.size
  have HD := Lib.hid (due_any b (.slice A l.length k) l room due w0.drew HW.out hn)
  go_wp2_with fail
  refine wp_region_heldT (S := fun w' => Blk w' b #[.int .i64 room, .slice A l.length k] 98) 16 (by kernel_rfl) HW.out.str (fun hHeld => ?_)
  refine heldT_free (i := 0) (v := ?_) rfl (by kernel_rfl) (by kernel_rfl) (by kernel_rfl) (by kernel_rfl) (fun _ _ _ h => h) (Or.inl ⟨by rfl, ?_⟩) hHeld ?_
  rotate_left 1
  · intro wS; go_simp <;> with_reducible rfl
  (try simp only [Act.put, List.setIfInBounds_toArray, List.set_cons_zero, List.set_cons_succ])
  refine heldT_free (i := 1) (v := ?_) rfl (by kernel_rfl) (by kernel_rfl) (by kernel_rfl) (by kernel_rfl) (fun _ _ _ h => h) (Or.inl ⟨by rfl, ?_⟩) hHeld ?_
  rotate_left 1
  · intro wS; go_simp <;> with_reducible rfl
  (try simp only [Act.put, List.setIfInBounds_toArray, List.set_cons_zero, List.set_cons_succ])
  refine heldT_free (i := 2) (v := ?_) rfl (by kernel_rfl) (by kernel_rfl) (by kernel_rfl) (by kernel_rfl) (fun _ _ _ h => h) (Or.inl ⟨by rfl, ?_⟩) hHeld ?_
  rotate_left 1
  · intro wS; go_simp <;> with_reducible rfl
  (try simp only [Act.put, List.setIfInBounds_toArray, List.set_cons_zero, List.set_cons_succ])
  refine heldT_free (i := 3) (v := ?_) rfl (by kernel_rfl) (by kernel_rfl) (by kernel_rfl) (by kernel_rfl) (fun _ _ _ h => h) (Or.inl ⟨by rfl, ?_⟩) hHeld ?_
  rotate_left 1
  · intro wS; go_simp <;> with_reducible rfl
  (try simp only [Act.put, List.setIfInBounds_toArray, List.set_cons_zero, List.set_cons_succ])
  refine heldT_takeC [] (i := 4) (v := ?_) rfl (by kernel_rfl) (by kernel_rfl) (by kernel_rfl) (by kernel_rfl) (fun _ _ _ h => h) (Or.inl ⟨by rfl, ?_⟩) hHeld ?_
  rotate_left 1
  · intro wS hSw; obtain ⟨e0, e1⟩ := blk2 hSw; clear hSw; go_simp <;> with_reducible rfl
  (try simp only [Act.put, List.setIfInBounds_toArray, List.set_cons_zero, List.set_cons_succ])
  refine heldT_free (i := 5) (v := ?_) rfl (by kernel_rfl) (by kernel_rfl) (by kernel_rfl) (by kernel_rfl) (fun _ _ _ h => h) (Or.inl ⟨by rfl, ?_⟩) hHeld ?_
  rotate_left 1
  · intro wS; go_simp <;> with_reducible rfl
  (try simp only [Act.put, List.setIfInBounds_toArray, List.set_cons_zero, List.set_cons_succ])
  refine heldT_free (i := 6) (v := ?_) rfl (by kernel_rfl) (by kernel_rfl) (by kernel_rfl) (by kernel_rfl) (fun _ _ _ h => h) (Or.inl ⟨by rfl, ?_⟩) hHeld ?_
  rotate_left 1
  · intro wS; go_simp <;> with_reducible rfl
  (try simp only [Act.put, List.setIfInBounds_toArray, List.set_cons_zero, List.set_cons_succ])
  refine heldT_free (i := 8) (v := ?_) rfl (by kernel_rfl) (by kernel_rfl) (by kernel_rfl) (by kernel_rfl) (fun _ _ _ h => h) (Or.inl ⟨by rfl, ?_⟩) hHeld ?_
  rotate_left 1
  · intro wS; go_simp <;> with_reducible rfl
  (try simp only [Act.put, List.setIfInBounds_toArray, List.set_cons_zero, List.set_cons_succ])
  refine heldT_free (i := 9) (v := ?_) rfl (by kernel_rfl) (by kernel_rfl) (by kernel_rfl) (by kernel_rfl) (fun _ _ _ h => h) (Or.inl ⟨by rfl, ?_⟩) hHeld ?_
  rotate_left 1
  · intro wS; go_simp <;> with_reducible rfl
  (try simp only [Act.put, List.setIfInBounds_toArray, List.set_cons_zero, List.set_cons_succ])
  refine heldT_one (j := 7) (by kernel_rfl) (by kernel_rfl) rfl (fun K hK => ?_)
  go_simp
  go_at_call 63
  refine HD.out.mono ?_
  rintro e w1 ⟨rfl, hb1⟩
  have HP1 := Lib.hid (HW.out.below hb1)
  have HX1 := Lib.hid (HXW.out.below hb1)
  have HB1 := Lib.hid (bmore HBW.out hb1 HBW.out.size)
  clear hb1
  go_wp2_with fail
  refine hK.out _ _ HP1.out.str (fun hHeld => ?_)
  clear hK K
  (try simp only [Act.put, List.setIfInBounds_toArray, List.set_cons_zero, List.set_cons_succ])
  refine heldT_one (j := 10) (by kernel_rfl) (by kernel_rfl) rfl (fun K hK => ?_)
  go_simp
  go_at_call 47
  refine (clone_byte (.slice A0 n c) n (u8s bs) w1 HX1.out (by omega) (u8s_one bs)).mono ?_
  rintro e w2 ⟨A2, c2, rfl, ho2, hb2, -⟩
  have HO2 := Lib.hid ho2
  have HB2 := Lib.hid hb2
  have HP2 := Lib.hid (HP1.out.below hb2)
  clear ho2 hb2
  go_wp2_with fail
  refine hK.out _ _ HP2.out.str (fun hHeld => ?_)
  clear hK K
  (try simp only [Act.put, List.setIfInBounds_toArray, List.set_cons_zero, List.set_cons_succ])
  refine heldT_free (i := 11) (v := ?_) rfl (by kernel_rfl) (by kernel_rfl) (by kernel_rfl) (by kernel_rfl) (fun _ _ _ h => h) (Or.inl ⟨by rfl, ?_⟩) hHeld ?_
  rotate_left 1
  · intro wS; go_simp <;> with_reducible rfl
  (try simp only [Act.put, List.setIfInBounds_toArray, List.set_cons_zero, List.set_cons_succ])
  refine heldT_one (j := 12) (by kernel_rfl) (by kernel_rfl) rfl (fun K hK => ?_)
  go_simp
  go_wp2_with fail
  refine hK.out _ _ (HP2.out.str.alloc _) (fun hHeld => ?_)
  clear hK K
  (try simp only [Act.put, List.setIfInBounds_toArray, List.set_cons_zero, List.set_cons_succ])
  refine heldT_one (j := 13) (by kernel_rfl) (by kernel_rfl) rfl (fun K hK => ?_)
  go_simp
  go_at_call 62
  refine (insert_msg 0 w2.heap.size (dueN l due) (.slice A l.length k) l ⟨due, A2, n, c2, bs⟩ _ msg_one (dueN_le l due) (by omega) (Nat.zero_le _) (HP2.out.row.alloc _) (Blk.new w2 _ _) (fun e => by have := (HP2.out.ne e).2; omega)).mono ?_
  rintro e w4 ⟨A4, c4, rfl, ho4, hk4, hn4⟩
  have HO4 := Lib.hid ho4
  have HK4 := Lib.hid hk4
  have HN4 := Lib.hid hn4
  have HS4 := Lib.hid ((HP2.out.str.alloc (.cells (msgCells ⟨due, A2, n, c2, bs⟩).toArray 102)).keep hk4 (fun e => (HP2.out.ne e).1 rfl))
  clear ho4 hk4 hn4
  go_wp2_with fail
  refine hK.out _ _ HS4.out (fun hHeld => ?_)
  clear hK K
  (try simp only [Act.put, List.setIfInBounds_toArray, List.set_cons_zero, List.set_cons_succ])
  refine heldT_free (i := 14) (v := ?_) rfl (by kernel_rfl) (by kernel_rfl) (by kernel_rfl) (by kernel_rfl) (fun _ _ _ h => h) (Or.inl ⟨by rfl, ?_⟩) hHeld ?_
  rotate_left 1
  · intro wS; go_simp <;> with_reducible rfl
  (try simp only [Act.put, List.setIfInBounds_toArray, List.set_cons_zero, List.set_cons_succ])
  refine heldT_free (i := 15) (v := ?_) rfl (by kernel_rfl) (by kernel_rfl) (by kernel_rfl) (by kernel_rfl) (fun _ _ _ h => h) (Or.inl ⟨by rfl, ?_⟩) hHeld ?_
  rotate_left 1
  · intro wS; go_simp <;> with_reducible rfl
  (try simp only [Act.put, List.setIfInBounds_toArray, List.set_cons_zero, List.set_cons_succ])
  refine heldT_tail (by kernel_rfl) rfl rfl (by kernel_rfl) ?_
  (try simp only [List.drop_succ_cons, List.drop_zero])
  have f1 := HS4.out.frozen 1
  obtain ⟨s0, s1⟩ := blk2 HS4.out
  go_wp2_with fail
  refine NoPanic.normal ?_
  go_wp2
  go_ret
  exact ⟨rfl, _, ⟨due, A2, n, c2, bs⟩, put_pat HP1.out HB1.out HO2.out HB2.out hb h3 HO4.out HK4.out HN4.out, rfl, rfl, rfl, put_keep HP1.out HB1.out HB2.out HK4.out⟩
theorem held3c {wr w3 : World} {p0 p1 p2 : Addr} {v0 v1 v2 : Value} (hb : Below wr.drew.heap.size wr.drew w3) (d0 : wr.cell? p0 = some v0) (d1 : wr.cell? p1 = some v1) (d2 : wr.cell? p2 = some v2) :
    w3.cell? p0 = some v0 ∧ w3.cell? p1 = some v1 ∧ w3.cell? p2 = some v2 := by
  have key : ∀ {p : Addr} {v : Value}, wr.cell? p = some v → w3.cell? p = some v := fun {p v} d => ((Keep.none hb).cell (p := p) (World.block_lt_of_cell? _ _ d) id).trans d
  exact ⟨key d0, key d1, key d2⟩
end Go.Proofs.Ytlodiibmofeikaa
