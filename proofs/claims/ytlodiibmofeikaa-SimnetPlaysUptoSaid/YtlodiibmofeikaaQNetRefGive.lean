/- simnet: the reference's Give. -/
import Derived.Test.YtlodiibmofeikaaQNetRefLay
import Derived.Test.YtlodiibmofeikaaQNetRefTurn
namespace Go.Proofs.Ytlodiibmofeikaa
open Go.RowKit
set_option linter.unusedVariables false
set_option linter.unusedSimpArgs false
def giveX (room due : Int) (bs : List Int) (f : FD) (X : List RM) (s : StN) : List RM × StN :=
  if f.kind = 1 then (X, s.send.lose) else if f.kind = 2 then layX room (layX room X ⟨due, strOfNums bs⟩ s.send.dbl).1 ⟨due, strOfNums bs⟩ (layX room X ⟨due, strOfNums bs⟩ s.send.dbl).2
  else if f.kind = 3 then layX room X ⟨due + clamp f.n, strOfNums bs⟩ s.send.lat else if f.kind = 4 then layX room X ⟨due, strOfNums (turnI bs f.n)⟩ s.send.trn else layX room X ⟨due, strOfNums bs⟩ s.send
theorem layX_len (room : Int) (X : List RM) (m : RM) (s : StN) : (layX room X m s).1.length ≤ X.length + 1 := by unfold layX; split <;> simp
theorem layX_stb {room n : Int} {X : List RM} {m : RM} {s : StN} (h : StB n s) : StB (n + 1) (layX room X m s).2 := by
  unfold layX
  split
  · obtain ⟨a, b, c, d, e, f⟩ := h
    unfold StN.drop
    exact ⟨by simp only; omega, by simp only; omega, by simp only; omega, by simp only; omega, by simp only; omega, by simp only; omega⟩
  · exact h.mono (by omega)
/-- what Give leaves -/
structure GvR (w w' : World) (v v' : Value) (X : List RM) : Prop where
  row : ROwnB w' v' X
  own : ∀ g, v'.ownBlock = some g → v.ownBlock = some g ∨ w.heap.size ≤ g
  bel : Below w.heap.size w w'
theorem set6g {w : World} {b : Nat} {a0 a1 a2 a3 a4 a5 : Value} {T : TypeId} (h : Blk w b #[a0, a1, a2, a3, a4, a5] T) (y0 y1 y2 y3 y4 y5 : Value) :
    Blk ((((((w.setCell ⟨b, 0, none⟩ y0).setCell ⟨b, 1, none⟩ y1).setCell ⟨b, 2, none⟩ y2).setCell ⟨b, 3, none⟩ y3).setCell ⟨b, 4, none⟩ y4).setCell ⟨b, 5, none⟩ y5) b #[y0, y1, y2, y3, y4, y5] T ∧ Keep (fun q => q = b) w ((((((w.setCell ⟨b, 0, none⟩ y0).setCell ⟨b, 1, none⟩ y1).setCell ⟨b, 2, none⟩ y2).setCell ⟨b, 3, none⟩ y3).setCell ⟨b, 4, none⟩ y4).setCell ⟨b, 5, none⟩ y5) :=
  ⟨(((((h.set _ _).set _ _).set _ _).set _ _).set _ _).set _ _, ((((((Keep.refl (fun q => q = b) w).setCell (p := ⟨b, 0, none⟩) (.inl rfl) _).setCell (p := ⟨b, 1, none⟩) (.inl rfl) _).setCell (p := ⟨b, 2, none⟩) (.inl rfl) _).setCell (p := ⟨b, 3, none⟩) (.inl rfl) _).setCell (p := ⟨b, 4, none⟩) (.inl rfl) _).setCell (p := ⟨b, 5, none⟩) (.inl rfl) _⟩
set_option maxRecDepth 100000 in
set_option maxHeartbeats 2000000 in
theorem refgive5 (room due : Int) (v : Value) (X : List RM) (bs : List Int) (f : FD) (s : StN) (w : World) (hx : ROwnB w v X) (hn : X.length ≤ 90000) (hbt : BtsI bs) (hbl : bs.length ≤ 100000) (hs : StB 900000 s) (hd : 0 ≤ due ∧ due ≤ 2199023255552) (hf : f.kind < 1 ∨ 4 < f.kind) :
    Calls Try.prog 49 #[v, .int .i64 room, .int .i64 due, .string (strOfNums bs), .agg #[.int .i64 f.kind, .int .i64 f.n], stV s] w fun e w' => ∃ v', e = .returned (.tuple #[v', stV (giveX room due bs f X s).2]) ∧ GvR w w' v v' (giveX room due bs f X s).1 := by
  obtain ⟨A, c, rfl⟩ := ownsRow_slice hx
  have hgx : giveX room due bs f X s = layX room X ⟨due, strOfNums bs⟩ s.send := by
    unfold giveX
    rw [if_neg (by omega), if_neg (by omega), if_neg (by omega), if_neg (by omega)]
  obtain ⟨gx, hgg⟩ : ∃ gx, gx = giveX room due bs f X s := ⟨_, rfl⟩
  rw [← hgg] at hgx ⊢
  have HGX := Lib.hid hgx
  obtain ⟨fk, fn⟩ := f
  dsimp only at hf
  unfold stV
  have HFN := Lib.hid (rfl : fn = fn)
  have HX := Lib.hid hx
  have HN := Lib.hid hn
  have HS := Lib.hid hs
  have HBT := Lib.hid hbt
  have HBL := Lib.hid hbl
  obtain ⟨k, hk⟩ : ∃ k, k = X.length := ⟨_, rfl⟩
  have HK := Lib.hid hk
  rw [← hk]
  obtain ⟨T, hT⟩ : ∃ T, T = strOfNums bs := ⟨_, rfl⟩
  have HT := Lib.hid hT
  rw [← hT]
  try rw [← hT] at HGX
  obtain ⟨s1, s2, s3, s4, s5, s6⟩ := hs
  clear hgx hgg hx hn hbt hbl hk hT
  have hbz := boxes3' w #[.int .i64 fk, .int .i64 fn] #[.int .i64 (s.sent + 1), .int .i64 s.lost, .int .i64 s.dropped, .int .i64 s.doubled, .int .i64 s.late, .int .i64 s.turned] #[.int .i64 0, .int .i64 0, .int .i64 0, .int .i64 0, .int .i64 0, .int .i64 0] 107 57 57
  obtain ⟨h10, h11, h13, hbl, hzz⟩ := hbz
  have H10 := Lib.hid h10
  have H11 := Lib.hid h11
  have H13 := Lib.hid h13
  have HBB := Lib.hid hbl
  have HZZ := Lib.hid hzz
  clear h10 h11 h13 hbl hzz
  have k1 : (fk == 1) = false := by simp; omega
  have k2 : (fk == 2) = false := by simp; omega
  have k3 : (fk == 3) = false := by simp; omega
  have k4 : (fk == 4) = false := by simp; omega
  clear hf
  go_enter Try.func49, Try.ntmps49
  go_wp2_with fail
  generalize (((w.alloc (.cells #[.int .i64 fk, .int .i64 fn] 107)).alloc (.cells #[.int .i64 (s.sent + 1), .int .i64 s.lost, .int .i64 s.dropped, .int .i64 s.doubled, .int .i64 s.late, .int .i64 s.turned] 57)).alloc (.cells #[.int .i64 0, .int .i64 0, .int .i64 0, .int .i64 0, .int .i64 0, .int .i64 0] 57)) = wz at *
  refine (reflay_any room (.slice A k c) X ⟨due, T⟩ ⟨s.sent + 1, s.lost, s.dropped, s.doubled, s.late, s.turned⟩ wz (by have h := ownsRow_keep HX.out (Keep.none HBB.out) (fun _ _ => id); rw [← HK.out] at h; unfold ROwnB; rw [← HK.out]; exact h) (by have := HN.out; omega) (HS.out.send.1.ok (by omega))).mono ?_
  rintro e w9 ⟨v9, rfl, hrow9, hown9, hb9⟩
  obtain ⟨A9, c9, rfl⟩ := ownsRow_slice hrow9
  obtain ⟨r9, hr9⟩ : ∃ r, r = layX room X ⟨due, T⟩ ⟨s.sent + 1, s.lost, s.dropped, s.doubled, s.late, s.turned⟩ := ⟨_, rfl⟩
  rw [← hr9] at hrow9 hown9 ⊢
  have HROW := Lib.hid hrow9
  have HOWN := Lib.hid hown9
  have H139 := Lib.hid (H13.out.below hb9)
  have HB9 := Lib.hid (bmore HBB.out hb9 HBB.out.size)
  have HP9 : Hid (w.heap.size + 1 + 1 < wz.heap.size) := H13.out.lt
  have er : r9 = gx := by rw [HGX.out, hr9]; rfl
  clear hr9
  subst er
  clear hrow9 hown9 hb9
  unfold stV
  obtain ⟨x0, x1, x2, x3, x4, x5⟩ := blk6' H139.out
  have z0 := H139.out.frozen 0
  have z1 := H139.out.frozen 1
  have z2 := H139.out.frozen 2
  have z3 := H139.out.frozen 3
  have z4 := H139.out.frozen 4
  have z5 := H139.out.frozen 5
  go_wp2
  have hset := set6 (T := 57) (show Blk w9 (w.heap.size + 1 + 1) (stA stN0) 57 from H139.out) (.int .i64 r9.2.sent) (.int .i64 r9.2.lost) (.int .i64 r9.2.dropped) (.int .i64 r9.2.doubled) (.int .i64 r9.2.late) (.int .i64 r9.2.turned)
  obtain ⟨q0, q1, q2, q3, q4, q5⟩ := blk6' hset.1
  refine bodyPost_ret (v := .tuple #[.slice A9 r9.1.length c9, .agg #[.int .i64 r9.2.sent, .int .i64 r9.2.lost, .int .i64 r9.2.dropped, .int .i64 r9.2.doubled, .int .i64 r9.2.late, .int .i64 r9.2.turned]]) (by simp [results, Try.results49, go_sem, q0, q1, q2, q3, q4, q5]) rfl ⟨_, rfl, ?_, ?_, ?_⟩
  · exact ownsRow_keep HROW.out hset.2 (fun g hg e => by
      have h1 := HP9.out
      rcases (HOWN.out g hg) with h | h
      · have h2 := (HX.out.lt g (by rw [← HK.out]; exact h)).2
        omega
      · omega)
  · intro g hg
    exact (HOWN.out g hg).imp id (fun h => by have := HP9.out; omega)
  · exact bkeep HB9.out hset.2 (Nat.le_refl _) (fun q e => by rw [e]; omega)
set_option maxRecDepth 100000 in
set_option maxHeartbeats 2000000 in
theorem refgive1 (room due : Int) (v : Value) (X : List RM) (bs : List Int) (f : FD) (s : StN) (w : World) (hx : ROwnB w v X) (hn : X.length ≤ 90000) (hbt : BtsI bs) (hbl : bs.length ≤ 100000) (hs : StB 900000 s) (hd : 0 ≤ due ∧ due ≤ 2199023255552) (hf : f.kind = 1) :
    Calls Try.prog 49 #[v, .int .i64 room, .int .i64 due, .string (strOfNums bs), .agg #[.int .i64 f.kind, .int .i64 f.n], stV s] w fun e w' => ∃ v', e = .returned (.tuple #[v', stV (giveX room due bs f X s).2]) ∧ GvR w w' v v' (giveX room due bs f X s).1 := by
  obtain ⟨A, c, rfl⟩ := ownsRow_slice hx
  have hgx : giveX room due bs f X s = (X, s.send.lose) := by
    unfold giveX
    rw [if_pos hf]
  obtain ⟨gx, hgg⟩ : ∃ gx, gx = giveX room due bs f X s := ⟨_, rfl⟩
  rw [← hgg] at hgx ⊢
  have HGX := Lib.hid hgx
  obtain ⟨fk, fn⟩ := f
  dsimp only at hf
  unfold stV
  have HFN := Lib.hid (rfl : fn = fn)
  have HX := Lib.hid hx
  have HN := Lib.hid hn
  have HS := Lib.hid hs
  have HBT := Lib.hid hbt
  have HBL := Lib.hid hbl
  obtain ⟨k, hk⟩ : ∃ k, k = X.length := ⟨_, rfl⟩
  have HK := Lib.hid hk
  rw [← hk]
  obtain ⟨T, hT⟩ : ∃ T, T = strOfNums bs := ⟨_, rfl⟩
  have HT := Lib.hid hT
  rw [← hT]
  try rw [← hT] at HGX
  obtain ⟨s1, s2, s3, s4, s5, s6⟩ := hs
  clear hgx hgg hx hn hbt hbl hk hT
  have hbz := boxes3' w #[.int .i64 1, .int .i64 fn] #[.int .i64 (s.sent + 1), .int .i64 (s.lost + 1), .int .i64 s.dropped, .int .i64 s.doubled, .int .i64 s.late, .int .i64 s.turned] #[.int .i64 0, .int .i64 0, .int .i64 0, .int .i64 0, .int .i64 0, .int .i64 0] 107 57 57
  obtain ⟨h10, h11, h13, hbl, hzz⟩ := hbz
  have H10 := Lib.hid h10
  have H11 := Lib.hid h11
  have H13 := Lib.hid h13
  have HBB := Lib.hid hbl
  have HZZ := Lib.hid hzz
  clear h10 h11 h13 hbl hzz
  subst hf
  go_enter Try.func49, Try.ntmps49
  go_wp2_with fail
  go_region
  go_wp2
  have hbz := boxes3' w #[.int .i64 1, .int .i64 fn] #[.int .i64 (s.sent + 1), .int .i64 (s.lost + 1), .int .i64 s.dropped, .int .i64 s.doubled, .int .i64 s.late, .int .i64 s.turned] #[.int .i64 (s.sent + 1), .int .i64 (s.lost + 1), .int .i64 s.dropped, .int .i64 s.doubled, .int .i64 s.late, .int .i64 s.turned] 107 57 57
  obtain ⟨-, -, h13, hbl, -⟩ := hbz
  obtain ⟨q0, q1, q2, q3, q4, q5⟩ := blk6' (h13.drewN 1)
  refine bodyPost_ret (v := .tuple #[.slice A k c, .agg #[.int .i64 (s.sent + 1), .int .i64 (s.lost + 1), .int .i64 s.dropped, .int .i64 s.doubled, .int .i64 s.late, .int .i64 s.turned]]) (by simp [results, Try.results49, go_sem, q0, q1, q2, q3, q4, q5]) rfl ?_
  rw [HGX.out]
  exact ⟨_, rfl, by have h := ownsRow_keep HX.out (Keep.none (below_drewN hbl 1)) (fun _ _ => id); rw [← HK.out] at h; show World.ownsRow _ _ _ _ _ X.length _; rw [← HK.out]; exact h, fun g hg => .inl hg, below_drewN hbl 1⟩
set_option maxRecDepth 100000 in
set_option maxHeartbeats 2000000 in
theorem refgive3a (room due : Int) (v : Value) (X : List RM) (bs : List Int) (f : FD) (s : StN) (w : World) (hx : ROwnB w v X) (hn : X.length ≤ 90000) (hbt : BtsI bs) (hbl : bs.length ≤ 100000) (hs : StB 900000 s) (hd : 0 ≤ due ∧ due ≤ 2199023255552) (hf : f.kind = 3) (hq : 64 < f.n) :
    Calls Try.prog 49 #[v, .int .i64 room, .int .i64 due, .string (strOfNums bs), .agg #[.int .i64 f.kind, .int .i64 f.n], stV s] w fun e w' => ∃ v', e = .returned (.tuple #[v', stV (giveX room due bs f X s).2]) ∧ GvR w w' v v' (giveX room due bs f X s).1 := by
  obtain ⟨A, c, rfl⟩ := ownsRow_slice hx
  have hgx : giveX room due bs f X s = layX room X ⟨due + clamp f.n, strOfNums bs⟩ s.send.lat := by
    unfold giveX
    rw [if_neg (by omega), if_neg (by omega), if_pos hf]
  obtain ⟨gx, hgg⟩ : ∃ gx, gx = giveX room due bs f X s := ⟨_, rfl⟩
  rw [← hgg] at hgx ⊢
  have HGX := Lib.hid hgx
  obtain ⟨fk, fn⟩ := f
  dsimp only at hf hq
  unfold stV
  have HFN := Lib.hid (rfl : fn = fn)
  have HX := Lib.hid hx
  have HN := Lib.hid hn
  have HS := Lib.hid hs
  have HBT := Lib.hid hbt
  have HBL := Lib.hid hbl
  obtain ⟨k, hk⟩ : ∃ k, k = X.length := ⟨_, rfl⟩
  have HK := Lib.hid hk
  rw [← hk]
  obtain ⟨T, hT⟩ : ∃ T, T = strOfNums bs := ⟨_, rfl⟩
  have HT := Lib.hid hT
  rw [← hT]
  try rw [← hT] at HGX
  obtain ⟨s1, s2, s3, s4, s5, s6⟩ := hs
  clear hgx hgg hx hn hbt hbl hk hT
  have hbz := boxes3' w #[.int .i64 3, .int .i64 fn] #[.int .i64 (s.sent + 1), .int .i64 s.lost, .int .i64 s.dropped, .int .i64 s.doubled, .int .i64 (s.late + 1), .int .i64 s.turned] #[.int .i64 0, .int .i64 0, .int .i64 0, .int .i64 0, .int .i64 0, .int .i64 0] 107 57 57
  obtain ⟨h10, h11, h13, hbl, hzz⟩ := hbz
  have H10 := Lib.hid h10
  have H11 := Lib.hid h11
  have H13 := Lib.hid h13
  have HBB := Lib.hid hbl
  have HZZ := Lib.hid hzz
  clear h10 h11 h13 hbl hzz
  subst hf
  go_enter Try.func49, Try.ntmps49
  go_wp2_with fail
  generalize (((w.alloc (.cells #[.int .i64 3, .int .i64 fn] 107)).alloc (.cells #[.int .i64 (s.sent + 1), .int .i64 s.lost, .int .i64 s.dropped, .int .i64 s.doubled, .int .i64 (s.late + 1), .int .i64 s.turned] 57)).alloc (.cells #[.int .i64 0, .int .i64 0, .int .i64 0, .int .i64 0, .int .i64 0, .int .i64 0] 57)) = wz at *
  refine (reflay_any room (.slice A k c) X ⟨due + 64, T⟩ ⟨s.sent + 1, s.lost, s.dropped, s.doubled, s.late + 1, s.turned⟩ wz (by have h := ownsRow_keep HX.out (Keep.none HBB.out) (fun _ _ => id); rw [← HK.out] at h; unfold ROwnB; rw [← HK.out]; exact h) (by have := HN.out; omega) (HS.out.send.2.2.2.1.ok (by omega))).mono ?_
  rintro e w9 ⟨v9, rfl, hrow9, hown9, hb9⟩
  obtain ⟨A9, c9, rfl⟩ := ownsRow_slice hrow9
  obtain ⟨r9, hr9⟩ : ∃ r, r = layX room X ⟨due + 64, T⟩ ⟨s.sent + 1, s.lost, s.dropped, s.doubled, s.late + 1, s.turned⟩ := ⟨_, rfl⟩
  rw [← hr9] at hrow9 hown9 ⊢
  have HROW := Lib.hid hrow9
  have HOWN := Lib.hid hown9
  have H139 := Lib.hid (H13.out.below hb9)
  have HB9 := Lib.hid (bmore HBB.out hb9 HBB.out.size)
  have HP9 : Hid (w.heap.size + 1 + 1 < wz.heap.size) := H13.out.lt
  have er : r9 = gx := by rw [HGX.out, hr9]; first | rfl | (rw [show clamp fn = 64 by unfold clamp; omega]; rfl)
  clear hr9
  subst er
  clear hrow9 hown9 hb9
  unfold stV
  obtain ⟨x0, x1, x2, x3, x4, x5⟩ := blk6' H139.out
  have z0 := H139.out.frozen 0
  have z1 := H139.out.frozen 1
  have z2 := H139.out.frozen 2
  have z3 := H139.out.frozen 3
  have z4 := H139.out.frozen 4
  have z5 := H139.out.frozen 5
  go_wp2
  have hset := set6 (T := 57) (show Blk w9 (w.heap.size + 1 + 1) (stA stN0) 57 from H139.out) (.int .i64 r9.2.sent) (.int .i64 r9.2.lost) (.int .i64 r9.2.dropped) (.int .i64 r9.2.doubled) (.int .i64 r9.2.late) (.int .i64 r9.2.turned)
  obtain ⟨q0, q1, q2, q3, q4, q5⟩ := blk6' hset.1
  refine bodyPost_ret (v := .tuple #[.slice A9 r9.1.length c9, .agg #[.int .i64 r9.2.sent, .int .i64 r9.2.lost, .int .i64 r9.2.dropped, .int .i64 r9.2.doubled, .int .i64 r9.2.late, .int .i64 r9.2.turned]]) (by simp [results, Try.results49, go_sem, q0, q1, q2, q3, q4, q5]) rfl ⟨_, rfl, ?_, ?_, ?_⟩
  · exact ownsRow_keep HROW.out hset.2 (fun g hg e => by
      have h1 := HP9.out
      rcases (HOWN.out g hg) with h | h
      · have h2 := (HX.out.lt g (by rw [← HK.out]; exact h)).2
        omega
      · omega)
  · intro g hg
    exact (HOWN.out g hg).imp id (fun h => by have := HP9.out; omega)
  · exact bkeep HB9.out hset.2 (Nat.le_refl _) (fun q e => by rw [e]; omega)
set_option maxRecDepth 100000 in
set_option maxHeartbeats 2000000 in
theorem refgive3b (room due : Int) (v : Value) (X : List RM) (bs : List Int) (f : FD) (s : StN) (w : World) (hx : ROwnB w v X) (hn : X.length ≤ 90000) (hbt : BtsI bs) (hbl : bs.length ≤ 100000) (hs : StB 900000 s) (hd : 0 ≤ due ∧ due ≤ 2199023255552) (hf : f.kind = 3) (hq : (¬ 64 < f.n) ∧ 0 < f.n) :
    Calls Try.prog 49 #[v, .int .i64 room, .int .i64 due, .string (strOfNums bs), .agg #[.int .i64 f.kind, .int .i64 f.n], stV s] w fun e w' => ∃ v', e = .returned (.tuple #[v', stV (giveX room due bs f X s).2]) ∧ GvR w w' v v' (giveX room due bs f X s).1 := by
  obtain ⟨A, c, rfl⟩ := ownsRow_slice hx
  have hgx : giveX room due bs f X s = layX room X ⟨due + clamp f.n, strOfNums bs⟩ s.send.lat := by
    unfold giveX
    rw [if_neg (by omega), if_neg (by omega), if_pos hf]
  obtain ⟨gx, hgg⟩ : ∃ gx, gx = giveX room due bs f X s := ⟨_, rfl⟩
  rw [← hgg] at hgx ⊢
  have HGX := Lib.hid hgx
  obtain ⟨fk, fn⟩ := f
  dsimp only at hf hq
  unfold stV
  have HFN := Lib.hid (rfl : fn = fn)
  have HX := Lib.hid hx
  have HN := Lib.hid hn
  have HS := Lib.hid hs
  have HBT := Lib.hid hbt
  have HBL := Lib.hid hbl
  obtain ⟨k, hk⟩ : ∃ k, k = X.length := ⟨_, rfl⟩
  have HK := Lib.hid hk
  rw [← hk]
  obtain ⟨T, hT⟩ : ∃ T, T = strOfNums bs := ⟨_, rfl⟩
  have HT := Lib.hid hT
  rw [← hT]
  try rw [← hT] at HGX
  obtain ⟨s1, s2, s3, s4, s5, s6⟩ := hs
  clear hgx hgg hx hn hbt hbl hk hT
  have hbz := boxes3' w #[.int .i64 3, .int .i64 fn] #[.int .i64 (s.sent + 1), .int .i64 s.lost, .int .i64 s.dropped, .int .i64 s.doubled, .int .i64 (s.late + 1), .int .i64 s.turned] #[.int .i64 0, .int .i64 0, .int .i64 0, .int .i64 0, .int .i64 0, .int .i64 0] 107 57 57
  obtain ⟨h10, h11, h13, hbl, hzz⟩ := hbz
  have H10 := Lib.hid h10
  have H11 := Lib.hid h11
  have H13 := Lib.hid h13
  have HBB := Lib.hid hbl
  have HZZ := Lib.hid hzz
  clear h10 h11 h13 hbl hzz
  subst hf
  obtain ⟨hq1, hq2⟩ := hq
  go_enter Try.func49, Try.ntmps49
  go_wp2_with fail
  generalize (((w.alloc (.cells #[.int .i64 3, .int .i64 fn] 107)).alloc (.cells #[.int .i64 (s.sent + 1), .int .i64 s.lost, .int .i64 s.dropped, .int .i64 s.doubled, .int .i64 (s.late + 1), .int .i64 s.turned] 57)).alloc (.cells #[.int .i64 0, .int .i64 0, .int .i64 0, .int .i64 0, .int .i64 0, .int .i64 0] 57)) = wz at *
  refine (reflay_any room (.slice A k c) X ⟨due + fn, T⟩ ⟨s.sent + 1, s.lost, s.dropped, s.doubled, s.late + 1, s.turned⟩ wz (by have h := ownsRow_keep HX.out (Keep.none HBB.out) (fun _ _ => id); rw [← HK.out] at h; unfold ROwnB; rw [← HK.out]; exact h) (by have := HN.out; omega) (HS.out.send.2.2.2.1.ok (by omega))).mono ?_
  rintro e w9 ⟨v9, rfl, hrow9, hown9, hb9⟩
  obtain ⟨A9, c9, rfl⟩ := ownsRow_slice hrow9
  obtain ⟨r9, hr9⟩ : ∃ r, r = layX room X ⟨due + fn, T⟩ ⟨s.sent + 1, s.lost, s.dropped, s.doubled, s.late + 1, s.turned⟩ := ⟨_, rfl⟩
  rw [← hr9] at hrow9 hown9 ⊢
  have HROW := Lib.hid hrow9
  have HOWN := Lib.hid hown9
  have H139 := Lib.hid (H13.out.below hb9)
  have HB9 := Lib.hid (bmore HBB.out hb9 HBB.out.size)
  have HP9 : Hid (w.heap.size + 1 + 1 < wz.heap.size) := H13.out.lt
  have er : r9 = gx := by rw [HGX.out, hr9]; first | rfl | (rw [show clamp fn = fn by unfold clamp; omega]; rfl)
  clear hr9
  subst er
  clear hrow9 hown9 hb9
  unfold stV
  obtain ⟨x0, x1, x2, x3, x4, x5⟩ := blk6' H139.out
  have z0 := H139.out.frozen 0
  have z1 := H139.out.frozen 1
  have z2 := H139.out.frozen 2
  have z3 := H139.out.frozen 3
  have z4 := H139.out.frozen 4
  have z5 := H139.out.frozen 5
  go_wp2
  have hset := set6 (T := 57) (show Blk w9 (w.heap.size + 1 + 1) (stA stN0) 57 from H139.out) (.int .i64 r9.2.sent) (.int .i64 r9.2.lost) (.int .i64 r9.2.dropped) (.int .i64 r9.2.doubled) (.int .i64 r9.2.late) (.int .i64 r9.2.turned)
  obtain ⟨q0, q1, q2, q3, q4, q5⟩ := blk6' hset.1
  refine bodyPost_ret (v := .tuple #[.slice A9 r9.1.length c9, .agg #[.int .i64 r9.2.sent, .int .i64 r9.2.lost, .int .i64 r9.2.dropped, .int .i64 r9.2.doubled, .int .i64 r9.2.late, .int .i64 r9.2.turned]]) (by simp [results, Try.results49, go_sem, q0, q1, q2, q3, q4, q5]) rfl ⟨_, rfl, ?_, ?_, ?_⟩
  · exact ownsRow_keep HROW.out hset.2 (fun g hg e => by
      have h1 := HP9.out
      rcases (HOWN.out g hg) with h | h
      · have h2 := (HX.out.lt g (by rw [← HK.out]; exact h)).2
        omega
      · omega)
  · intro g hg
    exact (HOWN.out g hg).imp id (fun h => by have := HP9.out; omega)
  · exact bkeep HB9.out hset.2 (Nat.le_refl _) (fun q e => by rw [e]; omega)
set_option maxRecDepth 100000 in
set_option maxHeartbeats 2000000 in
theorem refgive3c (room due : Int) (v : Value) (X : List RM) (bs : List Int) (f : FD) (s : StN) (w : World) (hx : ROwnB w v X) (hn : X.length ≤ 90000) (hbt : BtsI bs) (hbl : bs.length ≤ 100000) (hs : StB 900000 s) (hd : 0 ≤ due ∧ due ≤ 2199023255552) (hf : f.kind = 3) (hq : (¬ 64 < f.n) ∧ ¬ 0 < f.n) :
    Calls Try.prog 49 #[v, .int .i64 room, .int .i64 due, .string (strOfNums bs), .agg #[.int .i64 f.kind, .int .i64 f.n], stV s] w fun e w' => ∃ v', e = .returned (.tuple #[v', stV (giveX room due bs f X s).2]) ∧ GvR w w' v v' (giveX room due bs f X s).1 := by
  obtain ⟨A, c, rfl⟩ := ownsRow_slice hx
  have hgx : giveX room due bs f X s = layX room X ⟨due + clamp f.n, strOfNums bs⟩ s.send.lat := by
    unfold giveX
    rw [if_neg (by omega), if_neg (by omega), if_pos hf]
  obtain ⟨gx, hgg⟩ : ∃ gx, gx = giveX room due bs f X s := ⟨_, rfl⟩
  rw [← hgg] at hgx ⊢
  have HGX := Lib.hid hgx
  obtain ⟨fk, fn⟩ := f
  dsimp only at hf hq
  unfold stV
  have HFN := Lib.hid (rfl : fn = fn)
  have HX := Lib.hid hx
  have HN := Lib.hid hn
  have HS := Lib.hid hs
  have HBT := Lib.hid hbt
  have HBL := Lib.hid hbl
  obtain ⟨k, hk⟩ : ∃ k, k = X.length := ⟨_, rfl⟩
  have HK := Lib.hid hk
  rw [← hk]
  obtain ⟨T, hT⟩ : ∃ T, T = strOfNums bs := ⟨_, rfl⟩
  have HT := Lib.hid hT
  rw [← hT]
  try rw [← hT] at HGX
  obtain ⟨s1, s2, s3, s4, s5, s6⟩ := hs
  clear hgx hgg hx hn hbt hbl hk hT
  have hbz := boxes3' w #[.int .i64 3, .int .i64 fn] #[.int .i64 (s.sent + 1), .int .i64 s.lost, .int .i64 s.dropped, .int .i64 s.doubled, .int .i64 (s.late + 1), .int .i64 s.turned] #[.int .i64 0, .int .i64 0, .int .i64 0, .int .i64 0, .int .i64 0, .int .i64 0] 107 57 57
  obtain ⟨h10, h11, h13, hbl, hzz⟩ := hbz
  have H10 := Lib.hid h10
  have H11 := Lib.hid h11
  have H13 := Lib.hid h13
  have HBB := Lib.hid hbl
  have HZZ := Lib.hid hzz
  clear h10 h11 h13 hbl hzz
  subst hf
  obtain ⟨hq1, hq2⟩ := hq
  go_enter Try.func49, Try.ntmps49
  go_wp2_with fail
  generalize (((w.alloc (.cells #[.int .i64 3, .int .i64 fn] 107)).alloc (.cells #[.int .i64 (s.sent + 1), .int .i64 s.lost, .int .i64 s.dropped, .int .i64 s.doubled, .int .i64 (s.late + 1), .int .i64 s.turned] 57)).alloc (.cells #[.int .i64 0, .int .i64 0, .int .i64 0, .int .i64 0, .int .i64 0, .int .i64 0] 57)) = wz at *
  refine (reflay_any room (.slice A k c) X ⟨due, T⟩ ⟨s.sent + 1, s.lost, s.dropped, s.doubled, s.late + 1, s.turned⟩ wz (by have h := ownsRow_keep HX.out (Keep.none HBB.out) (fun _ _ => id); rw [← HK.out] at h; unfold ROwnB; rw [← HK.out]; exact h) (by have := HN.out; omega) (HS.out.send.2.2.2.1.ok (by omega))).mono ?_
  rintro e w9 ⟨v9, rfl, hrow9, hown9, hb9⟩
  obtain ⟨A9, c9, rfl⟩ := ownsRow_slice hrow9
  obtain ⟨r9, hr9⟩ : ∃ r, r = layX room X ⟨due, T⟩ ⟨s.sent + 1, s.lost, s.dropped, s.doubled, s.late + 1, s.turned⟩ := ⟨_, rfl⟩
  rw [← hr9] at hrow9 hown9 ⊢
  have HROW := Lib.hid hrow9
  have HOWN := Lib.hid hown9
  have H139 := Lib.hid (H13.out.below hb9)
  have HB9 := Lib.hid (bmore HBB.out hb9 HBB.out.size)
  have HP9 : Hid (w.heap.size + 1 + 1 < wz.heap.size) := H13.out.lt
  have er : r9 = gx := by rw [HGX.out, hr9]; first | rfl | (rw [show due + clamp fn = due by unfold clamp; omega]; rfl)
  clear hr9
  subst er
  clear hrow9 hown9 hb9
  unfold stV
  obtain ⟨x0, x1, x2, x3, x4, x5⟩ := blk6' H139.out
  have z0 := H139.out.frozen 0
  have z1 := H139.out.frozen 1
  have z2 := H139.out.frozen 2
  have z3 := H139.out.frozen 3
  have z4 := H139.out.frozen 4
  have z5 := H139.out.frozen 5
  go_wp2
  have hset := set6 (T := 57) (show Blk w9 (w.heap.size + 1 + 1) (stA stN0) 57 from H139.out) (.int .i64 r9.2.sent) (.int .i64 r9.2.lost) (.int .i64 r9.2.dropped) (.int .i64 r9.2.doubled) (.int .i64 r9.2.late) (.int .i64 r9.2.turned)
  obtain ⟨q0, q1, q2, q3, q4, q5⟩ := blk6' hset.1
  refine bodyPost_ret (v := .tuple #[.slice A9 r9.1.length c9, .agg #[.int .i64 r9.2.sent, .int .i64 r9.2.lost, .int .i64 r9.2.dropped, .int .i64 r9.2.doubled, .int .i64 r9.2.late, .int .i64 r9.2.turned]]) (by simp [results, Try.results49, go_sem, q0, q1, q2, q3, q4, q5]) rfl ⟨_, rfl, ?_, ?_, ?_⟩
  · exact ownsRow_keep HROW.out hset.2 (fun g hg e => by
      have h1 := HP9.out
      rcases (HOWN.out g hg) with h | h
      · have h2 := (HX.out.lt g (by rw [← HK.out]; exact h)).2
        omega
      · omega)
  · intro g hg
    exact (HOWN.out g hg).imp id (fun h => by have := HP9.out; omega)
  · exact bkeep HB9.out hset.2 (Nat.le_refl _) (fun q e => by rw [e]; omega)
set_option maxRecDepth 100000 in
set_option maxHeartbeats 2000000 in
theorem refgive4 (room due : Int) (v : Value) (X : List RM) (bs : List Int) (f : FD) (s : StN) (w : World) (hx : ROwnB w v X) (hn : X.length ≤ 90000) (hbt : BtsI bs) (hbl : bs.length ≤ 100000) (hs : StB 900000 s) (hd : 0 ≤ due ∧ due ≤ 2199023255552) (hf : f.kind = 4) :
    Calls Try.prog 49 #[v, .int .i64 room, .int .i64 due, .string (strOfNums bs), .agg #[.int .i64 f.kind, .int .i64 f.n], stV s] w fun e w' => ∃ v', e = .returned (.tuple #[v', stV (giveX room due bs f X s).2]) ∧ GvR w w' v v' (giveX room due bs f X s).1 := by
  obtain ⟨A, c, rfl⟩ := ownsRow_slice hx
  have hgx : giveX room due bs f X s = layX room X ⟨due, strOfNums (turnI bs f.n)⟩ s.send.trn := by
    unfold giveX
    rw [if_neg (by omega), if_neg (by omega), if_neg (by omega), if_pos hf]
  obtain ⟨gx, hgg⟩ : ∃ gx, gx = giveX room due bs f X s := ⟨_, rfl⟩
  rw [← hgg] at hgx ⊢
  have HGX := Lib.hid hgx
  obtain ⟨fk, fn⟩ := f
  dsimp only at hf
  unfold stV
  have HFN := Lib.hid (rfl : fn = fn)
  have HX := Lib.hid hx
  have HN := Lib.hid hn
  have HS := Lib.hid hs
  have HBT := Lib.hid hbt
  have HBL := Lib.hid hbl
  obtain ⟨k, hk⟩ : ∃ k, k = X.length := ⟨_, rfl⟩
  have HK := Lib.hid hk
  rw [← hk]
  obtain ⟨T, hT⟩ : ∃ T, T = strOfNums bs := ⟨_, rfl⟩
  have HT := Lib.hid hT
  rw [← hT]
  try rw [← hT] at HGX
  obtain ⟨s1, s2, s3, s4, s5, s6⟩ := hs
  clear hgx hgg hx hn hbt hbl hk hT
  have hbz := boxes3' w #[.int .i64 4, .int .i64 fn] #[.int .i64 (s.sent + 1), .int .i64 s.lost, .int .i64 s.dropped, .int .i64 s.doubled, .int .i64 s.late, .int .i64 (s.turned + 1)] #[.int .i64 0, .int .i64 0, .int .i64 0, .int .i64 0, .int .i64 0, .int .i64 0] 107 57 57
  obtain ⟨h10, h11, h13, hbl, hzz⟩ := hbz
  have H10 := Lib.hid h10
  have H11 := Lib.hid h11
  have H13 := Lib.hid h13
  have HBB := Lib.hid hbl
  have HZZ := Lib.hid hzz
  clear h10 h11 h13 hbl hzz
  subst hf
  have hturn := fun w => refturn_any bs fn w HBT.out HBL.out
  rw [← HT.out] at hturn
  have HTU := Lib.hid hturn
  clear hturn
  go_enter Try.func49, Try.ntmps49
  go_wp2_with fail
  generalize (((w.alloc (.cells #[.int .i64 4, .int .i64 fn] 107)).alloc (.cells #[.int .i64 (s.sent + 1), .int .i64 s.lost, .int .i64 s.dropped, .int .i64 s.doubled, .int .i64 s.late, .int .i64 (s.turned + 1)] 57)).alloc (.cells #[.int .i64 0, .int .i64 0, .int .i64 0, .int .i64 0, .int .i64 0, .int .i64 0] 57)) = wz at *
  refine (HTU.out wz).mono ?_
  rintro e w5 ⟨rfl, hb5⟩
  have H105 := Lib.hid (H10.out.below hb5)
  have H115 := Lib.hid (H11.out.below hb5)
  have H135 := Lib.hid (H13.out.below hb5)
  have HBB5 := Lib.hid (bmore HBB.out hb5 HBB.out.size)
  clear hb5
  obtain ⟨x0, x1, x2, x3, x4, x5⟩ := blk6' H115.out
  go_wp2_with fail
  refine (reflay_any room (.slice A k c) X ⟨due, (strOfNums (turnI bs fn))⟩ ⟨s.sent + 1, s.lost, s.dropped, s.doubled, s.late, s.turned + 1⟩ w5 (by have h := ownsRow_keep HX.out (Keep.none HBB5.out) (fun _ _ => id); rw [← HK.out] at h; unfold ROwnB; rw [← HK.out]; exact h) (by have := HN.out; omega) (HS.out.send.2.2.2.2.ok (by omega))).mono ?_
  rintro e w9 ⟨v9, rfl, hrow9, hown9, hb9⟩
  obtain ⟨A9, c9, rfl⟩ := ownsRow_slice hrow9
  obtain ⟨r9, hr9⟩ : ∃ r, r = layX room X ⟨due, (strOfNums (turnI bs fn))⟩ ⟨s.sent + 1, s.lost, s.dropped, s.doubled, s.late, s.turned + 1⟩ := ⟨_, rfl⟩
  rw [← hr9] at hrow9 hown9 ⊢
  have HROW := Lib.hid hrow9
  have HOWN := Lib.hid hown9
  have H139 := Lib.hid (H135.out.below hb9)
  have HB9 := Lib.hid (bmore HBB5.out hb9 HBB5.out.size)
  have HP9 : Hid (w.heap.size + 1 + 1 < w5.heap.size) := H135.out.lt
  have er : r9 = gx := by rw [HGX.out, hr9]; rfl
  clear hr9
  subst er
  clear hrow9 hown9 hb9
  unfold stV
  clear x0 x1 x2 x3 x4 x5
  obtain ⟨x0, x1, x2, x3, x4, x5⟩ := blk6' H139.out
  have z0 := H139.out.frozen 0
  have z1 := H139.out.frozen 1
  have z2 := H139.out.frozen 2
  have z3 := H139.out.frozen 3
  have z4 := H139.out.frozen 4
  have z5 := H139.out.frozen 5
  go_wp2
  have hset := set6 (T := 57) (show Blk w9 (w.heap.size + 1 + 1) (stA stN0) 57 from H139.out) (.int .i64 r9.2.sent) (.int .i64 r9.2.lost) (.int .i64 r9.2.dropped) (.int .i64 r9.2.doubled) (.int .i64 r9.2.late) (.int .i64 r9.2.turned)
  obtain ⟨q0, q1, q2, q3, q4, q5⟩ := blk6' hset.1
  refine bodyPost_ret (v := .tuple #[.slice A9 r9.1.length c9, .agg #[.int .i64 r9.2.sent, .int .i64 r9.2.lost, .int .i64 r9.2.dropped, .int .i64 r9.2.doubled, .int .i64 r9.2.late, .int .i64 r9.2.turned]]) (by simp [results, Try.results49, go_sem, q0, q1, q2, q3, q4, q5]) rfl ⟨_, rfl, ?_, ?_, ?_⟩
  · exact ownsRow_keep HROW.out hset.2 (fun g hg e => by
      have h1 := HP9.out
      rcases (HOWN.out g hg) with h | h
      · have h2 := (HX.out.lt g (by rw [← HK.out]; exact h)).2
        omega
      · omega)
  · intro g hg
    exact (HOWN.out g hg).imp id (fun h => by have := HP9.out; omega)
  · exact bkeep HB9.out hset.2 (Nat.le_refl _) (fun q e => by rw [e]; omega)
set_option maxRecDepth 100000 in
set_option maxHeartbeats 2000000 in
theorem refgive2 (room due : Int) (v : Value) (X : List RM) (bs : List Int) (f : FD) (s : StN) (w : World) (hx : ROwnB w v X) (hn : X.length ≤ 90000) (hbt : BtsI bs) (hbl : bs.length ≤ 100000) (hs : StB 900000 s) (hd : 0 ≤ due ∧ due ≤ 2199023255552) (hf : f.kind = 2) :
    Calls Try.prog 49 #[v, .int .i64 room, .int .i64 due, .string (strOfNums bs), .agg #[.int .i64 f.kind, .int .i64 f.n], stV s] w fun e w' => ∃ v', e = .returned (.tuple #[v', stV (giveX room due bs f X s).2]) ∧ GvR w w' v v' (giveX room due bs f X s).1 := by
  obtain ⟨A, c, rfl⟩ := ownsRow_slice hx
  have hgx : giveX room due bs f X s = layX room (layX room X ⟨due, strOfNums bs⟩ s.send.dbl).1 ⟨due, strOfNums bs⟩ (layX room X ⟨due, strOfNums bs⟩ s.send.dbl).2 := by
    unfold giveX
    rw [if_neg (by omega), if_pos hf]
  obtain ⟨gx, hgg⟩ : ∃ gx, gx = giveX room due bs f X s := ⟨_, rfl⟩
  rw [← hgg] at hgx ⊢
  have HGX := Lib.hid hgx
  obtain ⟨fk, fn⟩ := f
  dsimp only at hf
  unfold stV
  have HFN := Lib.hid (rfl : fn = fn)
  have HX := Lib.hid hx
  have HN := Lib.hid hn
  have HS := Lib.hid hs
  have HBT := Lib.hid hbt
  have HBL := Lib.hid hbl
  obtain ⟨k, hk⟩ : ∃ k, k = X.length := ⟨_, rfl⟩
  have HK := Lib.hid hk
  rw [← hk]
  obtain ⟨T, hT⟩ : ∃ T, T = strOfNums bs := ⟨_, rfl⟩
  have HT := Lib.hid hT
  rw [← hT]
  try rw [← hT] at HGX
  obtain ⟨s1, s2, s3, s4, s5, s6⟩ := hs
  clear hgx hgg hx hn hbt hbl hk hT
  have hbz := boxes3' w #[.int .i64 2, .int .i64 fn] #[.int .i64 (s.sent + 1), .int .i64 s.lost, .int .i64 s.dropped, .int .i64 (s.doubled + 1), .int .i64 s.late, .int .i64 s.turned] #[.int .i64 0, .int .i64 0, .int .i64 0, .int .i64 0, .int .i64 0, .int .i64 0] 107 57 57
  obtain ⟨h10, h11, h13, hbl, hzz⟩ := hbz
  have H10 := Lib.hid h10
  have H11 := Lib.hid h11
  have H13 := Lib.hid h13
  have HBB := Lib.hid hbl
  have HZZ := Lib.hid hzz
  clear h10 h11 h13 hbl hzz
  subst hf
  go_enter Try.func49, Try.ntmps49
  go_wp2_with fail
  generalize (((w.alloc (.cells #[.int .i64 2, .int .i64 fn] 107)).alloc (.cells #[.int .i64 (s.sent + 1), .int .i64 s.lost, .int .i64 s.dropped, .int .i64 (s.doubled + 1), .int .i64 s.late, .int .i64 s.turned] 57)).alloc (.cells #[.int .i64 0, .int .i64 0, .int .i64 0, .int .i64 0, .int .i64 0, .int .i64 0] 57)) = wz at *
  refine (reflay_any room (.slice A k c) X ⟨due, T⟩ ⟨s.sent + 1, s.lost, s.dropped, s.doubled + 1, s.late, s.turned⟩ wz (by have h := ownsRow_keep HX.out (Keep.none HBB.out) (fun _ _ => id); rw [← HK.out] at h; unfold ROwnB; rw [← HK.out]; exact h) (by have := HN.out; omega) (HS.out.send.2.2.1.ok (by omega))).mono ?_
  rintro e w8 ⟨v8, rfl, hrow8, hown8, hb8⟩
  obtain ⟨A8, c8, rfl⟩ := ownsRow_slice hrow8
  obtain ⟨r8, hr8⟩ : ∃ r, r = layX room X ⟨due, T⟩ ⟨s.sent + 1, s.lost, s.dropped, s.doubled + 1, s.late, s.turned⟩ := ⟨_, rfl⟩
  have hl8 := layX_len room X ⟨due, T⟩ ⟨s.sent + 1, s.lost, s.dropped, s.doubled + 1, s.late, s.turned⟩
  have hs8 : StB 900002 (layX room X ⟨due, T⟩ ⟨s.sent + 1, s.lost, s.dropped, s.doubled + 1, s.late, s.turned⟩).2 := layX_stb (s := ⟨s.sent + 1, s.lost, s.dropped, s.doubled + 1, s.late, s.turned⟩) (HS.out.send.2.2.1)
  rw [← hr8] at hrow8 hown8 hl8 hs8 ⊢
  have HR8 := Lib.hid hr8
  have HROW8 := Lib.hid hrow8
  have HOWN8 := Lib.hid hown8
  have HL8 := Lib.hid hl8
  have HS8 := Lib.hid hs8
  have H108 := Lib.hid (H10.out.below hb8)
  have H118 := Lib.hid (H11.out.below hb8)
  have H138 := Lib.hid (H13.out.below hb8)
  have HB8 := Lib.hid (bmore HBB.out hb8 HBB.out.size)
  have HP8 : Hid (w.heap.size + 1 + 1 < wz.heap.size ∧ wz.heap.size ≤ w8.heap.size) := ⟨H13.out.lt, hb8.size⟩
  clear hr8 hrow8 hown8 hb8 hl8 hs8
  unfold stV
  obtain ⟨x0, x1, x2, x3, x4, x5⟩ := blk6' H118.out
  obtain ⟨y0, y1⟩ := blk2 H108.out
  have z0 := H118.out.frozen 0
  have z1 := H118.out.frozen 1
  have z2 := H118.out.frozen 2
  have z3 := H118.out.frozen 3
  have z4 := H118.out.frozen 4
  have z5 := H118.out.frozen 5
  go_wp2_with fail
  have hset8 := set6g H118.out (.int .i64 r8.2.sent) (.int .i64 r8.2.lost) (.int .i64 r8.2.dropped) (.int .i64 r8.2.doubled) (.int .i64 r8.2.late) (.int .i64 r8.2.turned)
  have H13A := Lib.hid (H138.out.keep hset8.2 (by omega))
  have HBA := Lib.hid (bkeep HB8.out hset8.2 (Nat.le_refl _) (fun q e => by rw [e]; omega))
  have HROWA : Hid (ROwnB ((((((w8.setCell ⟨w.heap.size + 1, 0, none⟩ (.int .i64 r8.2.sent)).setCell ⟨w.heap.size + 1, 1, none⟩ (.int .i64 r8.2.lost)).setCell ⟨w.heap.size + 1, 2, none⟩ (.int .i64 r8.2.dropped)).setCell ⟨w.heap.size + 1, 3, none⟩ (.int .i64 r8.2.doubled)).setCell ⟨w.heap.size + 1, 4, none⟩ (.int .i64 r8.2.late)).setCell ⟨w.heap.size + 1, 5, none⟩ (.int .i64 r8.2.turned)) (.slice A8 r8.1.length c8) r8.1) := ownsRow_keep HROW8.out hset8.2 (fun g hg e => by
      have h1 := HP8.out
      rcases HOWN8.out g hg with h | h
      · have h2 := (HX.out.lt g (by rw [← HK.out]; exact h)).2
        omega
      · omega)
  have HAZ : Hid (w8.heap.size ≤ ((((((w8.setCell ⟨w.heap.size + 1, 0, none⟩ (.int .i64 r8.2.sent)).setCell ⟨w.heap.size + 1, 1, none⟩ (.int .i64 r8.2.lost)).setCell ⟨w.heap.size + 1, 2, none⟩ (.int .i64 r8.2.dropped)).setCell ⟨w.heap.size + 1, 3, none⟩ (.int .i64 r8.2.doubled)).setCell ⟨w.heap.size + 1, 4, none⟩ (.int .i64 r8.2.late)).setCell ⟨w.heap.size + 1, 5, none⟩ (.int .i64 r8.2.turned)).heap.size ∧ wz.heap.size ≤ w8.heap.size) := ⟨by simp, HP8.out.2⟩
  clear hset8 x0 x1 x2 x3 x4 x5 y0 y1 z0 z1 z2 z3 z4 z5
  generalize ((((((w8.setCell ⟨w.heap.size + 1, 0, none⟩ (.int .i64 r8.2.sent)).setCell ⟨w.heap.size + 1, 1, none⟩ (.int .i64 r8.2.lost)).setCell ⟨w.heap.size + 1, 2, none⟩ (.int .i64 r8.2.dropped)).setCell ⟨w.heap.size + 1, 3, none⟩ (.int .i64 r8.2.doubled)).setCell ⟨w.heap.size + 1, 4, none⟩ (.int .i64 r8.2.late)).setCell ⟨w.heap.size + 1, 5, none⟩ (.int .i64 r8.2.turned)) = wA at *
  refine (reflay_any room (.slice A8 r8.1.length c8) r8.1 ⟨due, T⟩ ⟨r8.2.sent, r8.2.lost, r8.2.dropped, r8.2.doubled, r8.2.late, r8.2.turned⟩ wA HROWA.out (by have := HN.out; have := HL8.out; omega) (HS8.out.ok (by omega))).mono ?_
  rintro e w9 ⟨v9, rfl, hrow9, hown9, hb9⟩
  obtain ⟨A9, c9, rfl⟩ := ownsRow_slice hrow9
  obtain ⟨r9, hr9⟩ : ∃ r, r = layX room r8.1 ⟨due, T⟩ ⟨r8.2.sent, r8.2.lost, r8.2.dropped, r8.2.doubled, r8.2.late, r8.2.turned⟩ := ⟨_, rfl⟩
  rw [← hr9] at hrow9 hown9 ⊢
  have HROW := Lib.hid hrow9
  have HOWN := Lib.hid hown9
  have H139 := Lib.hid (H13A.out.below hb9)
  have HB9 := Lib.hid (bmore HBA.out hb9 HBA.out.size)
  have HP9 : Hid (w.heap.size + 1 + 1 < wA.heap.size) := H13A.out.lt
  have er : r9 = gx := by rw [HGX.out, hr9]; have h8 : r8 = layX room X ⟨due, T⟩ s.send.dbl := HR8.out; rw [← h8]
  clear hr9
  subst er
  clear hrow9 hown9 hb9
  unfold stV
  obtain ⟨x0, x1, x2, x3, x4, x5⟩ := blk6' H139.out
  have z0 := H139.out.frozen 0
  have z1 := H139.out.frozen 1
  have z2 := H139.out.frozen 2
  have z3 := H139.out.frozen 3
  have z4 := H139.out.frozen 4
  have z5 := H139.out.frozen 5
  go_wp2
  have hset := set6 (T := 57) (show Blk w9 (w.heap.size + 1 + 1) (stA stN0) 57 from H139.out) (.int .i64 r9.2.sent) (.int .i64 r9.2.lost) (.int .i64 r9.2.dropped) (.int .i64 r9.2.doubled) (.int .i64 r9.2.late) (.int .i64 r9.2.turned)
  obtain ⟨q0, q1, q2, q3, q4, q5⟩ := blk6' hset.1
  refine bodyPost_ret (v := .tuple #[.slice A9 r9.1.length c9, .agg #[.int .i64 r9.2.sent, .int .i64 r9.2.lost, .int .i64 r9.2.dropped, .int .i64 r9.2.doubled, .int .i64 r9.2.late, .int .i64 r9.2.turned]]) (by simp [results, Try.results49, go_sem, q0, q1, q2, q3, q4, q5]) rfl ⟨_, rfl, ?_, ?_, ?_⟩
  · exact ownsRow_keep HROW.out hset.2 (fun g hg e => by
      have h1 := HP9.out
      have h9 := HP8.out
      have h10 := HAZ.out
      rcases (Or.elim (HOWN.out g hg) (HOWN8.out g) (fun h => Or.inr (by have h1 := HP8.out; have h3 := HAZ.out; omega)) : (Value.slice A k c).ownBlock = some g ∨ wz.heap.size ≤ g) with h | h
      · have h2 := (HX.out.lt g (by rw [← HK.out]; exact h)).2
        omega
      · omega)
  · intro g hg
    exact (Or.elim (HOWN.out g hg) (HOWN8.out g) (fun h => Or.inr (by have h1 := HP8.out; have h3 := HAZ.out; omega)) : (Value.slice A k c).ownBlock = some g ∨ wz.heap.size ≤ g).imp id (fun h => by have := HP9.out; have h9 := HP8.out; have h10 := HAZ.out; omega)
  · exact bkeep HB9.out hset.2 (Nat.le_refl _) (fun q e => by rw [e]; omega)
theorem refgive_any (room due : Int) (v : Value) (X : List RM) (bs : List Int) (f : FD) (s : StN) (w : World) (hx : ROwnB w v X) (hn : X.length ≤ 90000) (hbt : BtsI bs) (hbl : bs.length ≤ 100000) (hs : StB 900000 s) (hd : 0 ≤ due ∧ due ≤ 2199023255552) :
    Calls Try.prog 49 #[v, .int .i64 room, .int .i64 due, .string (strOfNums bs), .agg #[.int .i64 f.kind, .int .i64 f.n], stV s] w fun e w' => ∃ v', e = .returned (.tuple #[v', stV (giveX room due bs f X s).2]) ∧ GvR w w' v v' (giveX room due bs f X s).1 := by
  rcases (by omega : f.kind = 1 ∨ f.kind = 2 ∨ f.kind = 3 ∨ f.kind = 4 ∨ (f.kind < 1 ∨ 4 < f.kind)) with g | g | g | g | g
  · exact refgive1 room due v X bs f s w hx hn hbt hbl hs hd g
  · exact refgive2 room due v X bs f s w hx hn hbt hbl hs hd g
  · rcases (by omega : 64 < f.n ∨ (¬ 64 < f.n ∧ 0 < f.n) ∨ (¬ 64 < f.n ∧ ¬ 0 < f.n)) with q | q | q
    · exact refgive3a room due v X bs f s w hx hn hbt hbl hs hd g q
    · exact refgive3b room due v X bs f s w hx hn hbt hbl hs hd g q
    · exact refgive3c room due v X bs f s w hx hn hbt hbl hs hd g q
  · exact refgive4 room due v X bs f s w hx hn hbt hbl hs hd g
  · exact refgive5 room due v X bs f s w hx hn hbt hbl hs hd g
end Go.Proofs.Ytlodiibmofeikaa
