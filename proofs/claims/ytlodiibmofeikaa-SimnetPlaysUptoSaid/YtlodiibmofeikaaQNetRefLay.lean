/- simnet: the reference's lay. -/
import Derived.Test.YtlodiibmofeikaaQEE
import Derived.Deep.RegionHeld3
namespace Go.Proofs.Ytlodiibmofeikaa
open Go.RowKit
set_option linter.unusedVariables false
set_option linter.unusedSimpArgs false
/-- what lies in a cell -/
def valAt (p : Addr) (W : World) : Value := (W.cell? p).getD undef
theorem valAt_of {p : Addr} {W : World} {u : Value} (h : W.cell? p = some u) : W.cell? p = some (valAt p W) := by unfold valAt; rw [h]; rfl
theorem blk6' {w : World} {b : Nat} {v0 v1 v2 v3 v4 v5 : Value} {T : TypeId} (h : Blk w b #[v0, v1, v2, v3, v4, v5] T) : w.cell? ⟨b, 0, none⟩ = some v0 ∧ w.cell? ⟨b, 1, none⟩ = some v1 ∧ w.cell? ⟨b, 2, none⟩ = some v2 ∧ w.cell? ⟨b, 3, none⟩ = some v3 ∧ w.cell? ⟨b, 4, none⟩ = some v4 ∧ w.cell? ⟨b, 5, none⟩ = some v5 :=
  ⟨h.cell 0 rfl, h.cell 1 rfl, h.cell 2 rfl, h.cell 3 rfl, h.cell 4 rfl, h.cell 5 rfl⟩
def stV (s : StN) : Value := .agg #[.int .i64 s.sent, .int .i64 s.lost, .int .i64 s.dropped, .int .i64 s.doubled, .int .i64 s.late, .int .i64 s.turned]
def stA (s : StN) : Array Value := #[.int .i64 s.sent, .int .i64 s.lost, .int .i64 s.dropped, .int .i64 s.doubled, .int .i64 s.late, .int .i64 s.turned]
def ROwnB (w : World) (v : Value) (X : List RM) : Prop := w.ownsRow 0 110 2 v X.length (X.flatMap rmCells)
/-- the reference's lay -/
def layX (room : Int) (X : List RM) (m : RM) (s : StN) : List RM × StN := if room ≤ (X.length : Int) then (X, s.drop) else (X ++ [m], s)
theorem boxes3' (w : World) (a b c : Array Value) (Ta Tb Tc : TypeId) :
    let w' := ((w.alloc (.cells a Ta)).alloc (.cells b Tb)).alloc (.cells c Tc)
    Blk w' w.heap.size a Ta ∧ Blk w' (w.heap.size + 1) b Tb ∧ Blk w' (w.heap.size + 1 + 1) c Tc ∧ Below w.heap.size w w' ∧ w'.heap.size = w.heap.size + 1 + 1 + 1 := by
  intro w'
  have z1 : (w.alloc (.cells a Ta)).heap.size = w.heap.size + 1 := by simp
  have z2 : ((w.alloc (.cells a Ta)).alloc (.cells b Tb)).heap.size = w.heap.size + 1 + 1 := by simp
  have n1 := Blk.new w a Ta
  have n2 := Blk.new (w.alloc (.cells a Ta)) b Tb
  have n3 := Blk.new ((w.alloc (.cells a Ta)).alloc (.cells b Tb)) c Tc
  rw [z1] at n2
  rw [z2] at n3
  exact ⟨(n1.alloc _).alloc _, n2.alloc _, n3, (((Below.refl _ w).alloc (Nat.le_refl _) _).alloc (by omega) _).alloc (by omega) _, by simp [w']⟩
def RgL (p4 p5 p7 : Nat) (m0 m1 s0 s1 s2 s3 s4 s5 : Value) (w : World) : Prop := w.cell? ⟨p4, 0, none⟩ = some m0 ∧ w.cell? ⟨p4, 1, none⟩ = some m1 ∧ w.cell? ⟨p5, 0, none⟩ = some s0 ∧ w.cell? ⟨p5, 1, none⟩ = some s1 ∧ w.cell? ⟨p5, 2, none⟩ = some s2 ∧ w.cell? ⟨p5, 3, none⟩ = some s3 ∧ w.cell? ⟨p5, 4, none⟩ = some s4 ∧ w.cell? ⟨p5, 5, none⟩ = some s5 ∧ w.cell? ⟨p7, 0, none⟩ = some (valAt ⟨p7, 0, none⟩ w) ∧ w.cell? ⟨p7, 1, none⟩ = some (valAt ⟨p7, 1, none⟩ w) ∧ w.cell? ⟨p7, 2, none⟩ = some (valAt ⟨p7, 2, none⟩ w) ∧ w.cell? ⟨p7, 3, none⟩ = some (valAt ⟨p7, 3, none⟩ w) ∧ w.cell? ⟨p7, 4, none⟩ = some (valAt ⟨p7, 4, none⟩ w) ∧ w.cell? ⟨p7, 5, none⟩ = some (valAt ⟨p7, 5, none⟩ w) ∧ w.frozen? ⟨p7, 0, none⟩ = false ∧ w.frozen? ⟨p7, 1, none⟩ = false ∧ w.frozen? ⟨p7, 2, none⟩ = false ∧ w.frozen? ⟨p7, 3, none⟩ = false ∧ w.frozen? ⟨p7, 4, none⟩ = false ∧ w.frozen? ⟨p7, 5, none⟩ = false
theorem RgL.keep {p4 p5 p7 : Nat} {m0 m1 s0 s1 s2 s3 s4 s5 : Value} {S : Nat → Prop} {w w' : World} (h : RgL p4 p5 p7 m0 m1 s0 s1 s2 s3 s4 s5 w) (hk : Keep S w w') (h_p4 : ¬ S p4) (h_p5 : ¬ S p5) (h_p7 : ¬ S p7) : RgL p4 p5 p7 m0 m1 s0 s1 s2 s3 s4 s5 w' := by
  obtain ⟨a0, a1, a2, a3, a4, a5, a6, a7, c0, c1, c2, c3, c4, c5, f0, f1, f2, f3, f4, f5⟩ := h
  have l_p4 := World.block_lt_of_cell? _ _ a0
  have l_p5 := World.block_lt_of_cell? _ _ a2
  have l_p7 := World.block_lt_of_cell? _ _ c0
  exact ⟨(hk.cell (p := ⟨p4, 0, none⟩) l_p4 h_p4).trans a0, (hk.cell (p := ⟨p4, 1, none⟩) l_p4 h_p4).trans a1, (hk.cell (p := ⟨p5, 0, none⟩) l_p5 h_p5).trans a2, (hk.cell (p := ⟨p5, 1, none⟩) l_p5 h_p5).trans a3, (hk.cell (p := ⟨p5, 2, none⟩) l_p5 h_p5).trans a4, (hk.cell (p := ⟨p5, 3, none⟩) l_p5 h_p5).trans a5, (hk.cell (p := ⟨p5, 4, none⟩) l_p5 h_p5).trans a6, (hk.cell (p := ⟨p5, 5, none⟩) l_p5 h_p5).trans a7, valAt_of ((hk.cell (p := ⟨p7, 0, none⟩) l_p7 h_p7).trans c0), valAt_of ((hk.cell (p := ⟨p7, 1, none⟩) l_p7 h_p7).trans c1), valAt_of ((hk.cell (p := ⟨p7, 2, none⟩) l_p7 h_p7).trans c2), valAt_of ((hk.cell (p := ⟨p7, 3, none⟩) l_p7 h_p7).trans c3), valAt_of ((hk.cell (p := ⟨p7, 4, none⟩) l_p7 h_p7).trans c4), valAt_of ((hk.cell (p := ⟨p7, 5, none⟩) l_p7 h_p7).trans c5), (hk.frozen (p := ⟨p7, 0, none⟩) l_p7 h_p7).trans f0, (hk.frozen (p := ⟨p7, 1, none⟩) l_p7 h_p7).trans f1, (hk.frozen (p := ⟨p7, 2, none⟩) l_p7 h_p7).trans f2, (hk.frozen (p := ⟨p7, 3, none⟩) l_p7 h_p7).trans f3, (hk.frozen (p := ⟨p7, 4, none⟩) l_p7 h_p7).trans f4, (hk.frozen (p := ⟨p7, 5, none⟩) l_p7 h_p7).trans f5⟩
theorem RgL.set1 {p4 p5 p7 : Nat} {m0 m1 s0 s1 s2 s3 s4 s5 : Value} {w : World} (h : RgL p4 p5 p7 m0 m1 s0 s1 s2 s3 s4 s5 w) (h_p4 : ¬ p4 = p7) (h_p5 : ¬ p5 = p7) (o : Nat) (y : Value) : RgL p4 p5 p7 m0 m1 s0 s1 s2 s3 s4 s5 (w.setCell ⟨p7, o, none⟩ y) := by
  obtain ⟨a0, a1, a2, a3, a4, a5, a6, a7, c0, c1, c2, c3, c4, c5, f0, f1, f2, f3, f4, f5⟩ := h
  have hk := (Keep.refl (fun k => k = p7) w).setCell (p := ⟨p7, o, none⟩) (.inl rfl) y
  have l_p4 := World.block_lt_of_cell? _ _ a0
  have l_p5 := World.block_lt_of_cell? _ _ a2
  have l_p7 := World.block_lt_of_cell? _ _ c0
  have hc : ∀ q v, w.cell? ⟨p7, q, none⟩ = some v → (w.setCell ⟨p7, o, none⟩ y).cell? ⟨p7, q, none⟩ = some (valAt ⟨p7, q, none⟩ (w.setCell ⟨p7, o, none⟩ y)) := fun q v hv => by
    by_cases e : o = q
    · subst e
      exact valAt_of (World.cell?_setCell_same' _ _ _ (by rw [hv]; rfl))
    · exact valAt_of ((World.cell?_setCell_other _ _ _ _ (by intro h; cases h; exact e rfl)).trans hv)
  exact ⟨(hk.cell (p := ⟨p4, 0, none⟩) l_p4 h_p4).trans a0, (hk.cell (p := ⟨p4, 1, none⟩) l_p4 h_p4).trans a1, (hk.cell (p := ⟨p5, 0, none⟩) l_p5 h_p5).trans a2, (hk.cell (p := ⟨p5, 1, none⟩) l_p5 h_p5).trans a3, (hk.cell (p := ⟨p5, 2, none⟩) l_p5 h_p5).trans a4, (hk.cell (p := ⟨p5, 3, none⟩) l_p5 h_p5).trans a5, (hk.cell (p := ⟨p5, 4, none⟩) l_p5 h_p5).trans a6, (hk.cell (p := ⟨p5, 5, none⟩) l_p5 h_p5).trans a7, hc 0 _ c0, hc 1 _ c1, hc 2 _ c2, hc 3 _ c3, hc 4 _ c4, hc 5 _ c5, by rw [World.frozen?_setCell]; exact f0, by rw [World.frozen?_setCell]; exact f1, by rw [World.frozen?_setCell]; exact f2, by rw [World.frozen?_setCell]; exact f3, by rw [World.frozen?_setCell]; exact f4, by rw [World.frozen?_setCell]; exact f5⟩
theorem RgL.setN {p4 p5 p7 : Nat} {m0 m1 s0 s1 s2 s3 s4 s5 : Value} {w : World} (h : RgL p4 p5 p7 m0 m1 s0 s1 s2 s3 s4 s5 w) (h_p4 : ¬ p4 = p7) (h_p5 : ¬ p5 = p7) (y0 y1 y2 y3 y4 y5 : Value) : RgL p4 p5 p7 m0 m1 s0 s1 s2 s3 s4 s5 ((((((w.setCell ⟨p7, 0, none⟩ y0).setCell ⟨p7, 1, none⟩ y1).setCell ⟨p7, 2, none⟩ y2).setCell ⟨p7, 3, none⟩ y3).setCell ⟨p7, 4, none⟩ y4).setCell ⟨p7, 5, none⟩ y5) :=
  ((((((h.set1 h_p4 h_p5 0 y0).set1 h_p4 h_p5 1 y1).set1 h_p4 h_p5 2 y2).set1 h_p4 h_p5 3 y3).set1 h_p4 h_p5 4 y4).set1 h_p4 h_p5 5 y5)

theorem set6 {w : World} {b : Nat} {T : TypeId} (h : Blk w b (stA stN0) T) (y0 y1 y2 y3 y4 y5 : Value) :
    Blk ((((((w.setCell ⟨b, 0, none⟩ y0).setCell ⟨b, 1, none⟩ y1).setCell ⟨b, 2, none⟩ y2).setCell ⟨b, 3, none⟩ y3).setCell ⟨b, 4, none⟩ y4).setCell ⟨b, 5, none⟩ y5) b #[y0, y1, y2, y3, y4, y5] T ∧ Keep (fun q => q = b) w ((((((w.setCell ⟨b, 0, none⟩ y0).setCell ⟨b, 1, none⟩ y1).setCell ⟨b, 2, none⟩ y2).setCell ⟨b, 3, none⟩ y3).setCell ⟨b, 4, none⟩ y4).setCell ⟨b, 5, none⟩ y5) :=
  ⟨(((((h.set _ _).set _ _).set _ _).set _ _).set _ _).set _ _, ((((((Keep.refl (fun q => q = b) w).setCell (p := ⟨b, 0, none⟩) (.inl rfl) _).setCell (p := ⟨b, 1, none⟩) (.inl rfl) _).setCell (p := ⟨b, 2, none⟩) (.inl rfl) _).setCell (p := ⟨b, 3, none⟩) (.inl rfl) _).setCell (p := ⟨b, 4, none⟩) (.inl rfl) _).setCell (p := ⟨b, 5, none⟩) (.inl rfl) _⟩
set_option maxRecDepth 100000 in
set_option maxHeartbeats 2000000 in
theorem reflay_full (room : Int) (v : Value) (X : List RM) (m : RM) (s : StN) (w : World) (hx : ROwnB w v X) (hn : X.length ≤ 100000) (hs : StOk s) (hf : room ≤ (X.length : Int)) :
    Calls Try.prog 57 #[v, .int .i64 room, .agg #[.int .i64 m.due, .string m.txt], stV s] w fun e w' => e = .returned (.tuple #[v, stV s.drop]) ∧ Below w.heap.size w w' := by
  obtain ⟨A, c, rfl⟩ := ownsRow_slice hx
  obtain ⟨k, hk⟩ : ∃ k, k = X.length := ⟨_, rfl⟩
  have hbx := boxes3' w #[.int .i64 m.due, .string m.txt] (stA s) (stA stN0) 110 57 57
  obtain ⟨wz, hwz⟩ : ∃ wz, wz = ((w.alloc (.cells #[.int .i64 m.due, .string m.txt] 110)).alloc (.cells (stA s) 57)).alloc (.cells (stA stN0) 57) := ⟨_, rfl⟩
  rw [← hwz] at hbx
  obtain ⟨hb4, hb5, hb7, hbl, hzz⟩ := hbx
  have HBL := Lib.hid hbl
  have HB5 := Lib.hid hb5
  have HB7 := Lib.hid hb7
  have HWZ := Lib.hid hwz
  have hd := hs.dropped
  rw [← hk] at hf ⊢
  rw [← hk] at hn
  unfold stV
  clear hx hk hs hb4 hb5 hb7 hbl hzz hwz
  go_enter Try.func57, Try.ntmps57
  go_wp2_with fail
  go_region
  go_wp2
  have hbz := boxes3' w #[.int .i64 m.due, .string m.txt] (stA s.drop) (stA s.drop) 110 57 57
  obtain ⟨-, -, hb7, hbl, -⟩ := hbz
  obtain ⟨r0, r1, r2, r3, r4, r5⟩ := blk6' (hb7.drewN 1)
  refine bodyPost_ret (v := .tuple #[.slice A k c, .agg #[.int .i64 s.drop.sent, .int .i64 s.drop.lost, .int .i64 s.drop.dropped, .int .i64 s.drop.doubled, .int .i64 s.drop.late, .int .i64 s.drop.turned]]) ?_ rfl ⟨rfl, below_drewN hbl 1⟩
  unfold StN.drop at *
  unfold stA at *
  simp [results, Try.results57, go_sem, r0, r1, r2, r3, r4, r5]
set_option maxRecDepth 100000 in
set_option maxHeartbeats 600000 in
theorem reflay_more (room : Int) (v : Value) (X : List RM) (m : RM) (s : StN) (w : World) (hx : ROwnB w v X) (hn : X.length ≤ 100000) (hs : StOk s) (hf : ¬ room ≤ (X.length : Int)) :
    Calls Try.prog 57 #[v, .int .i64 room, .agg #[.int .i64 m.due, .string m.txt], stV s] w fun e w' => ∃ v', e = .returned (.tuple #[v', stV s]) ∧ w'.ownsRow w.heap.size 110 2 v' (X ++ [m]).length ((X ++ [m]).flatMap rmCells) ∧ Below w.heap.size w w' := by
  obtain ⟨i0, hi0, hz0, hz1, hz2⟩ := info_parts info_rm
  have HI0 := Lib.hid hi0
  have HZ0 := Lib.hid hz0
  have HZ1 := Lib.hid hz1
  have HZ2 := Lib.hid hz2
  obtain ⟨A, c, rfl⟩ := ownsRow_slice hx
  obtain ⟨k, hk⟩ : ∃ k, k = X.length := ⟨_, rfl⟩
  have HK := Lib.hid hk
  obtain ⟨X', hX'⟩ : ∃ X', X' = X ++ [m] := ⟨_, rfl⟩
  have HX' := Lib.hid hX'
  rw [← hX']
  clear hX'
  have hbx := boxes3' w #[.int .i64 m.due, .string m.txt] (stA s) (stA stN0) 110 57 57
  obtain ⟨wz, hwz⟩ : ∃ wz, wz = ((w.alloc (.cells #[.int .i64 m.due, .string m.txt] 110)).alloc (.cells (stA s) 57)).alloc (.cells (stA stN0) 57) := ⟨_, rfl⟩
  rw [← hwz] at hbx
  obtain ⟨hb4, hb5, hb7, hbl, hzz⟩ := hbx
  have HRX := Lib.hid ((Reads.of_owns hx).below hbl)
  rw [← hk] at HRX
  have HBL := Lib.hid hbl
  have HB4 := Lib.hid hb4
  have HB5 := Lib.hid hb5
  have HB7 := Lib.hid hb7
  have HWZ := Lib.hid hwz
  have HZZ := Lib.hid hzz
  rw [← hk] at hf ⊢
  rw [← hk] at hn
  unfold stV
  clear hx hk hs hb4 hb5 hb7 hbl hzz hwz hi0 hz0 hz1 hz2
  go_enter Try.func57, Try.ntmps57
  unfold stA stN0 at HWZ
  go_wp2_with (at_builtin; rw [← HWZ.out]; refine wpList_appR rfl _ _ 92 rfl w.heap.size 110 i0 (.agg #[.int .i64 0, .string ByteArray.empty]) 2 24 Try.underlying92 HI0.out HZ0.out HZ1.out HZ2.out rfl (.slice none 0 0) 0 [] rfl (World.ownsRow_nil _ _ _ _) _ k (X.flatMap rmCells) rfl HRX.out (rm_one X) (by unfold maxLen; omega) (by omega) HBL.out.size ?_; rintro A2 c2 w2 hown2 hk2 hg2 -; rw [Nat.zero_add, List.nil_append] at hown2; have HNE : Hid (∀ g, (Value.slice A2 k c2).ownBlock = some g → w.heap.size + 1 + 1 < g) := Lib.hid (fun g hg => by rcases hg2 g (by rw [Nat.zero_add]; exact hg) with h | h; cases h; have h2 := HZZ.out; omega); rw [Nat.zero_add]; have HO2 := Lib.hid hown2; have HK2 : Hid (Keep (fun _ => False) wz w2) := Lib.hid (hk2.mono (fun q _ e => by cases e)); clear hown2 hk2 hg2)
  have hb42 := HB4.out.keep HK2.out id
  have hb52 := HB5.out.keep HK2.out id
  have hb72 := HB7.out.keep HK2.out id
  have HB72 := Lib.hid hb72
  obtain ⟨e0, e1⟩ := blk2 hb42
  obtain ⟨g0, g1, g2, g3, g4, g5⟩ := blk6' hb52
  obtain ⟨u0, u1, u2, u3, u4, u5⟩ := blk6' hb72
  have hsz2 : w.heap.size + 1 + 1 + 1 ≤ w2.heap.size := by have h1 := HK2.out.size; have h2 := HZZ.out; omega
  have HSZ2 := Lib.hid hsz2
  have HOG : Hid (∀ g, (Value.slice A2 k c2).ownBlock = some g → w.heap.size + 1 + 1 < g) := fun g hg => HNE.out g hg
  have hX2 : RgL w.heap.size (w.heap.size + 1) (w.heap.size + 1 + 1) (.int .i64 m.due) (.string m.txt) (.int .i64 s.sent) (.int .i64 s.lost) (.int .i64 s.dropped) (.int .i64 s.doubled) (.int .i64 s.late) (.int .i64 s.turned) w2.drew := ⟨e0, e1, g0, g1, g2, g3, g4, g5, valAt_of u0, valAt_of u1, valAt_of u2, valAt_of u3, valAt_of u4, valAt_of u5, hb72.frozen 0, hb72.frozen 1, hb72.frozen 2, hb72.frozen 3, hb72.frozen 4, hb72.frozen 5⟩
  have HX2 := Lib.hid hX2
  have m1 : ¬ w.heap.size = w.heap.size + 1 + 1 := by omega
  have m2 : ¬ w.heap.size + 1 = w.heap.size + 1 + 1 := by omega
  have hX3 : RgL w.heap.size (w.heap.size + 1) (w.heap.size + 1 + 1) (.int .i64 m.due) (.string m.txt) (.int .i64 s.sent) (.int .i64 s.lost) (.int .i64 s.dropped) (.int .i64 s.doubled) (.int .i64 s.late) (.int .i64 s.turned) (w2.alloc (.cells #[.int .i64 m.due, .string m.txt] 110)).drew := hX2.keep ((Keep.refl (fun _ => False) w2.drew).alloc (.cells #[.int .i64 m.due, .string m.txt] 110)) id id id
  have HX3 := Lib.hid hX3
  unfold RgL at hX2 hX3
  clear e0 e1 g0 g1 g2 g3 g4 g5 u0 u1 u2 u3 u4 u5 hb42 hb52 hb72
  go_wp2_with fail
  go_region_held3 (fun w' => w'.cell? ⟨w.heap.size, 0, none⟩ = some (.int .i64 m.due) ∧ w'.cell? ⟨w.heap.size, 1, none⟩ = some (.string m.txt) ∧ w'.cell? ⟨(w.heap.size + 1), 0, none⟩ = some (.int .i64 s.sent) ∧ w'.cell? ⟨(w.heap.size + 1), 1, none⟩ = some (.int .i64 s.lost) ∧ w'.cell? ⟨(w.heap.size + 1), 2, none⟩ = some (.int .i64 s.dropped) ∧ w'.cell? ⟨(w.heap.size + 1), 3, none⟩ = some (.int .i64 s.doubled) ∧ w'.cell? ⟨(w.heap.size + 1), 4, none⟩ = some (.int .i64 s.late) ∧ w'.cell? ⟨(w.heap.size + 1), 5, none⟩ = some (.int .i64 s.turned) ∧ w'.cell? ⟨(w.heap.size + 1 + 1), 0, none⟩ = some (valAt ⟨(w.heap.size + 1 + 1), 0, none⟩ w') ∧ w'.cell? ⟨(w.heap.size + 1 + 1), 1, none⟩ = some (valAt ⟨(w.heap.size + 1 + 1), 1, none⟩ w') ∧ w'.cell? ⟨(w.heap.size + 1 + 1), 2, none⟩ = some (valAt ⟨(w.heap.size + 1 + 1), 2, none⟩ w') ∧ w'.cell? ⟨(w.heap.size + 1 + 1), 3, none⟩ = some (valAt ⟨(w.heap.size + 1 + 1), 3, none⟩ w') ∧ w'.cell? ⟨(w.heap.size + 1 + 1), 4, none⟩ = some (valAt ⟨(w.heap.size + 1 + 1), 4, none⟩ w') ∧ w'.cell? ⟨(w.heap.size + 1 + 1), 5, none⟩ = some (valAt ⟨(w.heap.size + 1 + 1), 5, none⟩ w') ∧ w'.frozen? ⟨(w.heap.size + 1 + 1), 0, none⟩ = false ∧ w'.frozen? ⟨(w.heap.size + 1 + 1), 1, none⟩ = false ∧ w'.frozen? ⟨(w.heap.size + 1 + 1), 2, none⟩ = false ∧ w'.frozen? ⟨(w.heap.size + 1 + 1), 3, none⟩ = false ∧ w'.frozen? ⟨(w.heap.size + 1 + 1), 4, none⟩ = false ∧ w'.frozen? ⟨(w.heap.size + 1 + 1), 5, none⟩ = false)
    (first | with_reducible exact hX2 | with_reducible exact hX3 | with_reducible exact hX4 | with_reducible assumption | exact RgL.setN HX4.out m1 m2 _ _ _ _ _ _)
    (first
      | (refine step_app1 rfl _ _ 92 rfl w.heap.size 110 i0 (.agg #[.int .i64 0, .string ByteArray.empty]) 2 24 Try.underlying92 HI0.out HZ0.out HZ1.out HZ2.out rfl (.slice A2 k c2) k (X.flatMap rmCells) rfl (HO2.out.drew.alloc _) _ #[.int .i64 m.due, .string m.txt] (0, 0) 1 rfl (show (w2.alloc (.cells #[.int .i64 m.due, .string m.txt] 110)).drew.heap[_]? = _ from heap_alloc_new w2 _) rfl (by intro u hu; simp at hu; rcases hu with rfl | rfl <;> rfl) (by omega) (by omega) (by simp; omega) ?_; rintro A4 c4 w4 hown4 hk4 hg4; have HOH : Hid (∀ g, (Value.slice A4 (k + 1) c4).ownBlock = some g → (Value.slice A2 k c2).ownBlock = some g ∨ w2.heap.size ≤ g) := Lib.hid (fun g hg => (hg4 g hg).imp id (fun h => Nat.le_trans (by simp) h)); have HO4 := Lib.hid hown4; have HX4 := Lib.hid (HX3.out.keep hk4 (fun e => by have h1 := (HO2.out.lt _ e).2; have h2 := HOG.out _ e; omega) (fun e => by have h2 := HOG.out _ e; omega) (fun e => by have h2 := HOG.out _ e; omega)); have hX4 := HX4.out; unfold RgL at hX4; have HK4 := Lib.hid hk4; clear hown4 hk4 hg4))
  clear hX2 hX3 hX4
  have hb4 := ((HB72.out.drew.alloc (.cells #[.int .i64 m.due, .string m.txt] 110)).keep HK4.out (fun e => by have h2 := HOG.out _ e; omega) : Blk w4 (w.heap.size + 1 + 1) (stA stN0) 57)
  have hset := set6 hb4 (.int .i64 s.sent) (.int .i64 s.lost) (.int .i64 s.dropped) (.int .i64 s.doubled) (.int .i64 s.late) (.int .i64 s.turned)
  have HSB := Lib.hid hset.1
  have HSK := Lib.hid hset.2
  have HKA : Hid (Keep (fun q => (Value.slice A2 k c2).ownBlock = some q) w2 w4) := ((Keep.refl _ w2).alloc (.cells #[.int .i64 m.due, .string m.txt] 110)).drew.trans HK4.out (fun _ _ x => x)
  clear hb4 hset
  obtain ⟨r0, r1, r2, r3, r4, r5⟩ := blk6' HSB.out
  go_wp2
  have hlen : X'.length = k + 1 := by rw [HX'.out, List.length_append, ← HK.out]; rfl
  rw [hlen]
  refine bodyPost_ret (v := .tuple #[.slice A4 (k + 1) c4, .agg #[.int .i64 s.sent, .int .i64 s.lost, .int .i64 s.dropped, .int .i64 s.doubled, .int .i64 s.late, .int .i64 s.turned]]) (by simp [results, Try.results57, go_sem, r0, r1, r2, r3, r4, r5]) rfl ⟨_, rfl, ?_, ?_⟩
  · rw [HX'.out, List.flatMap_append]
    exact ownsRow_keep HO4.out HSK.out (fun g hg e => by
      rcases HOH.out g hg with h | h
      · have := HOG.out g h; omega
      · have := HSZ2.out; omega)
  · exact bkeep (bkeep (bkeep HBL.out HK2.out (Nat.le_refl _) (fun _ h => h.elim)) HKA.out (Nat.le_refl _) (fun q e => by have := HOG.out q e; omega)) HSK.out (Nat.le_refl _) (fun q e => by omega)
theorem reflay_any (room : Int) (v : Value) (X : List RM) (m : RM) (s : StN) (w : World) (hx : ROwnB w v X) (hn : X.length ≤ 100000) (hs : StOk s) :
    Calls Try.prog 57 #[v, .int .i64 room, .agg #[.int .i64 m.due, .string m.txt], stV s] w fun e w' => ∃ v', e = .returned (.tuple #[v', stV (layX room X m s).2]) ∧ ROwnB w' v' (layX room X m s).1 ∧ (∀ g, v'.ownBlock = some g → v.ownBlock = some g ∨ w.heap.size ≤ g) ∧ Below w.heap.size w w' := by
  unfold layX
  by_cases h : room ≤ (X.length : Int)
  · rw [if_pos h]
    exact (reflay_full room v X m s w hx hn hs h).mono (fun e w' ⟨h1, h2⟩ => ⟨v, h1, ownsRow_keep hx (Keep.none h2) (fun _ _ => id), fun g hg => .inl hg, h2⟩)
  · rw [if_neg h]
    exact (reflay_more room v X m s w hx hn hs h).mono (fun e w' ⟨v', h1, h2, h3⟩ => ⟨v', h1, ownsRow_base h2 (Nat.zero_le _), fun g hg => .inr (h2.lt g hg).1, h3⟩)
end Go.Proofs.Ytlodiibmofeikaa
