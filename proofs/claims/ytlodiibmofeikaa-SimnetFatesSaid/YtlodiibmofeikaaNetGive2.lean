/- simnet: give, whatever the fate. -/
import Derived.Test.YtlodiibmofeikaaNetGives
namespace Go.Proofs.Ytlodiibmofeikaa
open Go.RowKit
set_option linter.unusedVariables false
set_option linter.unusedSimpArgs false
theorem set_self {α : Type} {l : List α} {i : Nat} {x : α} (h : l[i]? = some x) : l.set i x = l := by
  refine List.ext_getElem? fun j => ?_
  rw [List.getElem?_set]
  split
  · rename_i e
    subst e
    have := (List.getElem?_eq_some_iff.1 h).1
    have h2 := List.getElem?_eq_getElem this
    rw [h] at h2
    simp [this, Option.some.inj h2]
  · rfl
theorem lay_more {room due : Int} {bs : List Int} {l l' : List Msg} {s s' : StN} (h : LayL room due bs l s l' s') (hl : l.length ≤ 10000) (hs : 0 ≤ s.dropped ∧ s.dropped ≤ 1000000000) (hs2 : s.dropped ≤ 999999999) : l'.length ≤ 100000 ∧ 0 ≤ s'.dropped ∧ s'.dropped ≤ 1000000000 := by
  rcases h with ⟨-, rfl, rfl⟩ | ⟨-, rfl, m, rfl, -⟩
  · refine ⟨by omega, ?_⟩
    unfold StN.drop
    simp only
    omega
  · refine ⟨?_, hs⟩
    unfold put1
    have h1 : dueN l due ≤ l.length := dueN_le l due
    simp only [List.length_append, List.length_cons, List.length_take, List.length_drop]
    omega
section
variable {w : World} {col : Nat → Nat} {nb : Nat} {gd : GD} {delay room : Int} {pv : Value} {P : List PD} {fv : Value} {F : List FD} {used : Nat} {s : StN} {i : Nat} {p : PD}
set_option maxRecDepth 100000 in
set_option maxHeartbeats 1000000 in
theorem give1 (h : NetAt w col nb gd delay room pv P fv F used s) (hp : P[i]? = some p) (now : Int) (A : Option Addr) (c : Nat) (bs : List Int) (hx : Reads w 1 (.slice A bs.length c) bs.length (u8s bs)) (hbt : BtsI bs) (hbl : bs.length ≤ 1000000) (hxo : ∀ g, (Value.slice A bs.length c).ownBlock = some g → 0 < bs.length → col g = 0)
    (hr : 0 ≤ room ∧ room ≤ 1000) (hl : p.l.length ≤ 10000) (hs : StOk s) (hF : F.length ≤ 1000000) (hu : used ≤ 1000000) (hd : 0 ≤ delay ∧ delay ≤ 64) (hn : 0 ≤ now ∧ now ≤ 1099511627776)
    (hf : (fateOf F used).kind = 1) :
    Calls Try.prog 29 #[.pointer (some ⟨nb, 0, none⟩), .pointer (some ⟨p.b, 0, none⟩), .slice A bs.length c, .int .i64 now] w fun e w' => (∃ v, e = .returned v) ∧ NetR w w' col nb gd delay room pv P fv F (usedN F used) i p (GiveL room (fateOf F used) (now + delay) bs p.l s) := by
  have H := Lib.hid h
  have hset : NetAt (w.setCell ⟨nb, 5, none⟩ (.int .i64 (s.sent + 1))) col nb gd delay room pv P fv F used s.send := h.set (used' := used) (s' := s.send) (i := 5) (u := .int .i64 (s.sent + 1)) rfl
  have hk1 : Keep (fun q => q = nb) w (w.setCell ⟨nb, 5, none⟩ (.int .i64 (s.sent + 1))) := (Keep.refl (fun q => q = nb) w).setCell (p := ⟨nb, 5, none⟩) (.inl rfl) _
  have hx1 : Reads (w.setCell ⟨nb, 5, none⟩ (.int .i64 (s.sent + 1))) 1 (.slice A bs.length c) bs.length (u8s bs) := hx.keep hk1 (fun g hg ps e => by have h1 := hxo g hg ps; have h2 := h.c1; rw [e] at h1; omega)
  have HS1 := Lib.hid hset
  have HK1 := Lib.hid hk1
  have HX1 := Lib.hid hx1
  have HP := Lib.hid hp
  have HXO := Lib.hid hxo
  have HSO := Lib.hid hs
  have HL := Lib.hid hl
  have HR := Lib.hid hr
  have HBT := Lib.hid hbt
  have HBL := Lib.hid hbl
  obtain ⟨n0, n1, n2, n3, n4, n5, n6, n7, n8, n9, n10⟩ := blk11 h.str
  have f5 := h.str.frozen 5
  have hs1 := hs.sent
  have HFT := Lib.hid (fate_any hset hF hu)
  have HFK : Hid (fateOf F used = ⟨1, (fateOf F used).n⟩) := by show _ = _; rw [← hf]
  obtain ⟨fn, hfn⟩ : ∃ k, k = (fateOf F used).n := ⟨_, rfl⟩
  obtain ⟨fk, hfk⟩ : ∃ k, k = (fateOf F used).kind := ⟨_, rfl⟩
  rw [← hfk] at hf
  rw [← hfk, ← hfn, hf] at HFT
  have HFN := Lib.hid hfn
  clear h hset hk1 hx hx1 hp hxo hs hl hr hF hu hfk hfn hf hbt hbl
  go_enter Try.func29, Try.ntmps29
  go_wp2_with fail
  clear n0 n1 n2 n3 n4 n5 n6 n7 n8 n9 n10 f5
  generalize w.setCell ⟨nb, 5, none⟩ (.int .i64 (s.sent + 1)) = w1 at *
  refine HFT.out.mono ?_
  rintro e w2 ⟨rfl, hn2, hk2⟩
  have hb3 : Below w2.heap.size w2 (w2.alloc (.cells #[.int .i64 1, .int .i64 fn] 39)) := (Below.refl _ w2).alloc (Nat.le_refl _) _
  have HN3 := Lib.hid (hn2.below hb3)
  have HK3 : Hid (Keep (fun q => col q ≠ 0) w (w2.alloc (.cells #[.int .i64 1, .int .i64 fn] 39))) :=
    ((HK1.out.trans hk2 (fun q _ e => e)).mono (fun q _ e => by rw [e, H.out.c1]; decide)).trans (Keep.none hb3) (fun _ _ h => h.elim)
  have HX3 : Hid (Reads (w2.alloc (.cells #[.int .i64 1, .int .i64 fn] 39)) 1 (.slice A bs.length c) bs.length (u8s bs)) :=
    (HX1.out.keep hk2 (fun g hg ps e => by have h1 := HXO.out g hg ps; have h2 := H.out.c1; rw [e] at h1; omega)).below hb3
  have HB3 := Lib.hid (Blk.new w2 #[.int .i64 1, .int .i64 fn] 39)
  have hne : ¬ nb = w2.heap.size := fun e => by have h1 := hn2.str.lt; omega
  have hne2 : ¬ w2.heap.size = nb := fun e => by have h1 := hn2.str.lt; omega
  obtain ⟨n0, n1, n2, n3, n4, n5, n6, n7, n8, n9, n10⟩ := blk11 HN3.out.str
  unfold StN.send at n5 n6 n7 n8 n9 n10
  have fz := HN3.out.str.frozen
  have HFZ := Lib.hid fz
  clear hn2 hk2 hb3 HS1 HK1 HX1 HFT fz
  have f6 := HFZ.out 6
  have hs2 := HSO.out.lost
  go_wp2
  refine bodyPost_ret (v := .tuple #[]) (by simp [results, Try.results29, go_sem]) rfl ⟨⟨_, rfl⟩, ?_⟩
  have HN4 : Hid (NetAt ((w2.alloc (.cells #[.int .i64 1, .int .i64 fn] 39)).setCell ⟨nb, 6, none⟩ (.int .i64 (s.lost + 1))) col nb gd delay room pv P fv F (usedN F used) s.send.lose) := HN3.out.set (used' := usedN F used) (s' := s.send.lose) (i := 6) (u := .int .i64 (s.lost + 1)) rfl
  have hk4 : Keep (fun q => col q ≠ 0) w ((w2.alloc (.cells #[.int .i64 1, .int .i64 fn] 39)).setCell ⟨nb, 6, none⟩ (.int .i64 (s.lost + 1))) := HK3.out.setCell (p := ⟨nb, 6, none⟩) (.inl (by rw [H.out.c1]; decide)) _
  have hset : P.set i ⟨p.b, p.v, p.l⟩ = P := set_self HP.out
  exact ⟨⟨col, p.v, p.l, _, by rw [hset]; exact HN4.out, fun x hx => .inl hx, .inl ⟨by rw [HFK.out], rfl, rfl⟩⟩, hk4⟩
set_option maxRecDepth 100000 in
set_option maxHeartbeats 1000000 in
theorem give2 (h : NetAt w col nb gd delay room pv P fv F used s) (hp : P[i]? = some p) (now : Int) (A : Option Addr) (c : Nat) (bs : List Int) (hx : Reads w 1 (.slice A bs.length c) bs.length (u8s bs)) (hbt : BtsI bs) (hbl : bs.length ≤ 1000000) (hxo : ∀ g, (Value.slice A bs.length c).ownBlock = some g → 0 < bs.length → col g = 0)
    (hr : 0 ≤ room ∧ room ≤ 1000) (hl : p.l.length ≤ 10000) (hs : StOk s) (hF : F.length ≤ 1000000) (hu : used ≤ 1000000) (hd : 0 ≤ delay ∧ delay ≤ 64) (hn : 0 ≤ now ∧ now ≤ 1099511627776)
    (hf : (fateOf F used).kind = 2) (hsd : s.dropped ≤ 999999999) :
    Calls Try.prog 29 #[.pointer (some ⟨nb, 0, none⟩), .pointer (some ⟨p.b, 0, none⟩), .slice A bs.length c, .int .i64 now] w fun e w' => (∃ v, e = .returned v) ∧ NetR w w' col nb gd delay room pv P fv F (usedN F used) i p (GiveL room (fateOf F used) (now + delay) bs p.l s) := by
  have HSD : Hid (s.send.dbl.dropped ≤ 999999999) := hsd
  have H := Lib.hid h
  have hset : NetAt (w.setCell ⟨nb, 5, none⟩ (.int .i64 (s.sent + 1))) col nb gd delay room pv P fv F used s.send := h.set (used' := used) (s' := s.send) (i := 5) (u := .int .i64 (s.sent + 1)) rfl
  have hk1 : Keep (fun q => q = nb) w (w.setCell ⟨nb, 5, none⟩ (.int .i64 (s.sent + 1))) := (Keep.refl (fun q => q = nb) w).setCell (p := ⟨nb, 5, none⟩) (.inl rfl) _
  have hx1 : Reads (w.setCell ⟨nb, 5, none⟩ (.int .i64 (s.sent + 1))) 1 (.slice A bs.length c) bs.length (u8s bs) := hx.keep hk1 (fun g hg ps e => by have h1 := hxo g hg ps; have h2 := h.c1; rw [e] at h1; omega)
  have HS1 := Lib.hid hset
  have HK1 := Lib.hid hk1
  have HX1 := Lib.hid hx1
  have HP := Lib.hid hp
  have HXO := Lib.hid hxo
  have HSO := Lib.hid hs
  have HL := Lib.hid hl
  have HR := Lib.hid hr
  have HBT := Lib.hid hbt
  have HBL := Lib.hid hbl
  obtain ⟨n0, n1, n2, n3, n4, n5, n6, n7, n8, n9, n10⟩ := blk11 h.str
  have f5 := h.str.frozen 5
  have hs1 := hs.sent
  have HFT := Lib.hid (fate_any hset hF hu)
  have HFK : Hid (fateOf F used = ⟨2, (fateOf F used).n⟩) := by show _ = _; rw [← hf]
  obtain ⟨fn, hfn⟩ : ∃ k, k = (fateOf F used).n := ⟨_, rfl⟩
  obtain ⟨fk, hfk⟩ : ∃ k, k = (fateOf F used).kind := ⟨_, rfl⟩
  rw [← hfk] at hf
  rw [← hfk, ← hfn, hf] at HFT
  have HFN := Lib.hid hfn
  clear h hset hk1 hx hx1 hp hxo hs hl hr hF hu hfk hfn hf hbt hbl hsd
  go_enter Try.func29, Try.ntmps29
  go_wp2_with fail
  clear n0 n1 n2 n3 n4 n5 n6 n7 n8 n9 n10 f5
  generalize w.setCell ⟨nb, 5, none⟩ (.int .i64 (s.sent + 1)) = w1 at *
  refine HFT.out.mono ?_
  rintro e w2 ⟨rfl, hn2, hk2⟩
  have hb3 : Below w2.heap.size w2 (w2.alloc (.cells #[.int .i64 2, .int .i64 fn] 39)) := (Below.refl _ w2).alloc (Nat.le_refl _) _
  have HN3 := Lib.hid (hn2.below hb3)
  have HK3 : Hid (Keep (fun q => col q ≠ 0) w (w2.alloc (.cells #[.int .i64 2, .int .i64 fn] 39))) :=
    ((HK1.out.trans hk2 (fun q _ e => e)).mono (fun q _ e => by rw [e, H.out.c1]; decide)).trans (Keep.none hb3) (fun _ _ h => h.elim)
  have HX3 : Hid (Reads (w2.alloc (.cells #[.int .i64 2, .int .i64 fn] 39)) 1 (.slice A bs.length c) bs.length (u8s bs)) :=
    (HX1.out.keep hk2 (fun g hg ps e => by have h1 := HXO.out g hg ps; have h2 := H.out.c1; rw [e] at h1; omega)).below hb3
  have HB3 := Lib.hid (Blk.new w2 #[.int .i64 2, .int .i64 fn] 39)
  have hne : ¬ nb = w2.heap.size := fun e => by have h1 := hn2.str.lt; omega
  have hne2 : ¬ w2.heap.size = nb := fun e => by have h1 := hn2.str.lt; omega
  obtain ⟨n0, n1, n2, n3, n4, n5, n6, n7, n8, n9, n10⟩ := blk11 HN3.out.str
  unfold StN.send at n5 n6 n7 n8 n9 n10
  have fz := HN3.out.str.frozen
  have HFZ := Lib.hid fz
  clear hn2 hk2 hb3 HS1 HK1 HX1 HFT fz
  have f8 := HFZ.out 8
  have hs2 := HSO.out.doubled
  go_wp2_with fail
  have HN4 : Hid (NetAt ((w2.alloc (.cells #[.int .i64 2, .int .i64 fn] 39)).setCell ⟨nb, 8, none⟩ (.int .i64 (s.doubled + 1))) col nb gd delay room pv P fv F (usedN F used) s.send.dbl) := HN3.out.set (used' := usedN F used) (s' := s.send.dbl) (i := 8) (u := .int .i64 (s.doubled + 1)) rfl
  have hk4 : Keep (fun q => q = nb) (w2.alloc (.cells #[.int .i64 2, .int .i64 fn] 39)) ((w2.alloc (.cells #[.int .i64 2, .int .i64 fn] 39)).setCell ⟨nb, 8, none⟩ (.int .i64 (s.doubled + 1))) := (Keep.refl (fun q => q = nb) _).setCell (p := ⟨nb, 8, none⟩) (.inl rfl) _
  have HK4 : Hid (Keep (fun q => col q ≠ 0) w ((w2.alloc (.cells #[.int .i64 2, .int .i64 fn] 39)).setCell ⟨nb, 8, none⟩ (.int .i64 (s.doubled + 1)))) := HK3.out.trans hk4 (fun q _ e => by rw [e, H.out.c1]; decide)
  have HX4 : Hid (Reads ((w2.alloc (.cells #[.int .i64 2, .int .i64 fn] 39)).setCell ⟨nb, 8, none⟩ (.int .i64 (s.doubled + 1))) 1 (.slice A bs.length c) bs.length (u8s bs)) := HX3.out.keep hk4 (fun g hg ps e => by have h1 := HXO.out g hg ps; have h2 := H.out.c1; rw [e] at h1; omega)
  clear hk4 n0 n1 n2 n3 n4 n5 n6 n7 n8 n9 n10
  generalize (w2.alloc (.cells #[.int .i64 2, .int .i64 fn] 39)).setCell ⟨nb, 8, none⟩ (.int .i64 (s.doubled + 1)) = w4 at *
  refine (lay_l HN4.out HP.out (now + delay) A c bs HX4.out HR.out (Nat.le_trans HL.out (by omega)) HSO.out.dropped).mono ?_
  rintro e w5 ⟨⟨v5, rfl⟩, ⟨⟨col5, v5, l5, s5, hn5, hc5, hq5⟩, hk5⟩⟩
  have HN5 := Lib.hid hn5
  have HC5 := Lib.hid hc5
  have HQ5 := Lib.hid hq5
  have HK5 := Lib.hid hk5
  have HX5 : Hid (Reads w5 1 (.slice A bs.length c) bs.length (u8s bs)) := HX4.out.keep hk5 (fun g hg ps e => e (HXO.out g hg ps))
  have HL5 : Hid (l5.length ≤ 100000 ∧ 0 ≤ s5.dropped ∧ s5.dropped ≤ 1000000000) := lay_more hq5 HL.out HSO.out.dropped HSD.out
  clear hn5 hc5 hq5 hk5
  go_wp2_with fail
  have hP5 : (P.set i ⟨p.b, v5, l5⟩)[i]? = some ⟨p.b, v5, l5⟩ := by rw [List.getElem?_set_self (List.getElem?_eq_some_iff.1 HP.out).1]
  refine (lay_l HN5.out hP5 (now + delay) A c bs HX5.out HR.out HL5.out.1 HL5.out.2).mono ?_
  rintro e w6 ⟨⟨v6, rfl⟩, r6⟩
  have HR6 := Lib.hid r6
  clear r6 hP5
  go_wp2
  refine bodyPost_end (v := .tuple #[]) (by simp [results, Try.results29, go_sem]) rfl ⟨⟨_, rfl⟩, ?_⟩
  refine NetR.from HK4.out (NetR.then HK5.out HC5.out (HR6.out.mono (fun l s h => .inr (.inl ⟨by rw [HFK.out], _, _, HQ5.out, h⟩))))
set_option maxRecDepth 100000 in
set_option maxHeartbeats 1000000 in
theorem give3 (h : NetAt w col nb gd delay room pv P fv F used s) (hp : P[i]? = some p) (now : Int) (A : Option Addr) (c : Nat) (bs : List Int) (hx : Reads w 1 (.slice A bs.length c) bs.length (u8s bs)) (hbt : BtsI bs) (hbl : bs.length ≤ 1000000) (hxo : ∀ g, (Value.slice A bs.length c).ownBlock = some g → 0 < bs.length → col g = 0)
    (hr : 0 ≤ room ∧ room ≤ 1000) (hl : p.l.length ≤ 10000) (hs : StOk s) (hF : F.length ≤ 1000000) (hu : used ≤ 1000000) (hd : 0 ≤ delay ∧ delay ≤ 64) (hn : 0 ≤ now ∧ now ≤ 1099511627776)
    (hf : (fateOf F used).kind = 3) :
    Calls Try.prog 29 #[.pointer (some ⟨nb, 0, none⟩), .pointer (some ⟨p.b, 0, none⟩), .slice A bs.length c, .int .i64 now] w fun e w' => (∃ v, e = .returned v) ∧ NetR w w' col nb gd delay room pv P fv F (usedN F used) i p (GiveL room (fateOf F used) (now + delay) bs p.l s) := by
  have H := Lib.hid h
  have hset : NetAt (w.setCell ⟨nb, 5, none⟩ (.int .i64 (s.sent + 1))) col nb gd delay room pv P fv F used s.send := h.set (used' := used) (s' := s.send) (i := 5) (u := .int .i64 (s.sent + 1)) rfl
  have hk1 : Keep (fun q => q = nb) w (w.setCell ⟨nb, 5, none⟩ (.int .i64 (s.sent + 1))) := (Keep.refl (fun q => q = nb) w).setCell (p := ⟨nb, 5, none⟩) (.inl rfl) _
  have hx1 : Reads (w.setCell ⟨nb, 5, none⟩ (.int .i64 (s.sent + 1))) 1 (.slice A bs.length c) bs.length (u8s bs) := hx.keep hk1 (fun g hg ps e => by have h1 := hxo g hg ps; have h2 := h.c1; rw [e] at h1; omega)
  have HS1 := Lib.hid hset
  have HK1 := Lib.hid hk1
  have HX1 := Lib.hid hx1
  have HP := Lib.hid hp
  have HXO := Lib.hid hxo
  have HSO := Lib.hid hs
  have HL := Lib.hid hl
  have HR := Lib.hid hr
  have HBT := Lib.hid hbt
  have HBL := Lib.hid hbl
  obtain ⟨n0, n1, n2, n3, n4, n5, n6, n7, n8, n9, n10⟩ := blk11 h.str
  have f5 := h.str.frozen 5
  have hs1 := hs.sent
  have HFT := Lib.hid (fate_any hset hF hu)
  have HFK : Hid (fateOf F used = ⟨3, (fateOf F used).n⟩) := by show _ = _; rw [← hf]
  obtain ⟨fn, hfn⟩ : ∃ k, k = (fateOf F used).n := ⟨_, rfl⟩
  obtain ⟨fk, hfk⟩ : ∃ k, k = (fateOf F used).kind := ⟨_, rfl⟩
  rw [← hfk] at hf
  rw [← hfk, ← hfn, hf] at HFT
  have HFN := Lib.hid hfn
  clear h hset hk1 hx hx1 hp hxo hs hl hr hF hu hfk hfn hf hbt hbl
  go_enter Try.func29, Try.ntmps29
  go_wp2_with fail
  clear n0 n1 n2 n3 n4 n5 n6 n7 n8 n9 n10 f5
  generalize w.setCell ⟨nb, 5, none⟩ (.int .i64 (s.sent + 1)) = w1 at *
  refine HFT.out.mono ?_
  rintro e w2 ⟨rfl, hn2, hk2⟩
  have hb3 : Below w2.heap.size w2 (w2.alloc (.cells #[.int .i64 3, .int .i64 fn] 39)) := (Below.refl _ w2).alloc (Nat.le_refl _) _
  have HN3 := Lib.hid (hn2.below hb3)
  have HK3 : Hid (Keep (fun q => col q ≠ 0) w (w2.alloc (.cells #[.int .i64 3, .int .i64 fn] 39))) :=
    ((HK1.out.trans hk2 (fun q _ e => e)).mono (fun q _ e => by rw [e, H.out.c1]; decide)).trans (Keep.none hb3) (fun _ _ h => h.elim)
  have HX3 : Hid (Reads (w2.alloc (.cells #[.int .i64 3, .int .i64 fn] 39)) 1 (.slice A bs.length c) bs.length (u8s bs)) :=
    (HX1.out.keep hk2 (fun g hg ps e => by have h1 := HXO.out g hg ps; have h2 := H.out.c1; rw [e] at h1; omega)).below hb3
  have HB3 := Lib.hid (Blk.new w2 #[.int .i64 3, .int .i64 fn] 39)
  have hne : ¬ nb = w2.heap.size := fun e => by have h1 := hn2.str.lt; omega
  have hne2 : ¬ w2.heap.size = nb := fun e => by have h1 := hn2.str.lt; omega
  obtain ⟨n0, n1, n2, n3, n4, n5, n6, n7, n8, n9, n10⟩ := blk11 HN3.out.str
  unfold StN.send at n5 n6 n7 n8 n9 n10
  have fz := HN3.out.str.frozen
  have HFZ := Lib.hid fz
  clear hn2 hk2 hb3 HS1 HK1 HX1 HFT fz
  have hcl := clamp_range fn
  have j1 : IntKind.i64.wrap (now + delay + clamp fn) = now + delay + clamp fn := IntWalk.i64_in _ (by omega)
  unfold clamp at j1 hcl
  have f9 := HFZ.out 9
  have hs2 := HSO.out.late
  go_wp2_with fail
  have HN4 : Hid (NetAt ((w2.alloc (.cells #[.int .i64 3, .int .i64 fn] 39)).setCell ⟨nb, 9, none⟩ (.int .i64 (s.late + 1))) col nb gd delay room pv P fv F (usedN F used) s.send.lat) := HN3.out.set (used' := usedN F used) (s' := s.send.lat) (i := 9) (u := .int .i64 (s.late + 1)) rfl
  have hk4 : Keep (fun q => q = nb) (w2.alloc (.cells #[.int .i64 3, .int .i64 fn] 39)) ((w2.alloc (.cells #[.int .i64 3, .int .i64 fn] 39)).setCell ⟨nb, 9, none⟩ (.int .i64 (s.late + 1))) := (Keep.refl (fun q => q = nb) _).setCell (p := ⟨nb, 9, none⟩) (.inl rfl) _
  have HK4 : Hid (Keep (fun q => col q ≠ 0) w ((w2.alloc (.cells #[.int .i64 3, .int .i64 fn] 39)).setCell ⟨nb, 9, none⟩ (.int .i64 (s.late + 1)))) := HK3.out.trans hk4 (fun q _ e => by rw [e, H.out.c1]; decide)
  have HX4 : Hid (Reads ((w2.alloc (.cells #[.int .i64 3, .int .i64 fn] 39)).setCell ⟨nb, 9, none⟩ (.int .i64 (s.late + 1))) 1 (.slice A bs.length c) bs.length (u8s bs)) := HX3.out.keep hk4 (fun g hg ps e => by have h1 := HXO.out g hg ps; have h2 := H.out.c1; rw [e] at h1; omega)
  clear hk4 n0 n1 n2 n3 n4 n5 n6 n7 n8 n9 n10
  generalize (w2.alloc (.cells #[.int .i64 3, .int .i64 fn] 39)).setCell ⟨nb, 9, none⟩ (.int .i64 (s.late + 1)) = w4 at *
  refine (lay_l HN4.out HP.out (now + delay + clamp fn) A c bs HX4.out HR.out (Nat.le_trans HL.out (by omega)) HSO.out.dropped).mono ?_
  rintro e w5 ⟨⟨v5, rfl⟩, r6⟩
  have HR6 := Lib.hid r6
  clear r6
  go_wp2
  refine bodyPost_end (v := .tuple #[]) (by simp [results, Try.results29, go_sem]) rfl ⟨⟨_, rfl⟩, ?_⟩
  refine NetR.from HK4.out (HR6.out.mono (fun l s h => .inr (.inr (.inl ⟨by rw [HFK.out], by rw [← HFN.out]; exact h⟩))))
set_option maxRecDepth 100000 in
set_option maxHeartbeats 1000000 in
theorem give4 (h : NetAt w col nb gd delay room pv P fv F used s) (hp : P[i]? = some p) (now : Int) (A : Option Addr) (c : Nat) (bs : List Int) (hx : Reads w 1 (.slice A bs.length c) bs.length (u8s bs)) (hbt : BtsI bs) (hbl : bs.length ≤ 1000000) (hxo : ∀ g, (Value.slice A bs.length c).ownBlock = some g → 0 < bs.length → col g = 0)
    (hr : 0 ≤ room ∧ room ≤ 1000) (hl : p.l.length ≤ 10000) (hs : StOk s) (hF : F.length ≤ 1000000) (hu : used ≤ 1000000) (hd : 0 ≤ delay ∧ delay ≤ 64) (hn : 0 ≤ now ∧ now ≤ 1099511627776)
    (hf : (fateOf F used).kind = 4) :
    Calls Try.prog 29 #[.pointer (some ⟨nb, 0, none⟩), .pointer (some ⟨p.b, 0, none⟩), .slice A bs.length c, .int .i64 now] w fun e w' => (∃ v, e = .returned v) ∧ NetR w w' col nb gd delay room pv P fv F (usedN F used) i p (GiveL room (fateOf F used) (now + delay) bs p.l s) := by
  have H := Lib.hid h
  have hset : NetAt (w.setCell ⟨nb, 5, none⟩ (.int .i64 (s.sent + 1))) col nb gd delay room pv P fv F used s.send := h.set (used' := used) (s' := s.send) (i := 5) (u := .int .i64 (s.sent + 1)) rfl
  have hk1 : Keep (fun q => q = nb) w (w.setCell ⟨nb, 5, none⟩ (.int .i64 (s.sent + 1))) := (Keep.refl (fun q => q = nb) w).setCell (p := ⟨nb, 5, none⟩) (.inl rfl) _
  have hx1 : Reads (w.setCell ⟨nb, 5, none⟩ (.int .i64 (s.sent + 1))) 1 (.slice A bs.length c) bs.length (u8s bs) := hx.keep hk1 (fun g hg ps e => by have h1 := hxo g hg ps; have h2 := h.c1; rw [e] at h1; omega)
  have HS1 := Lib.hid hset
  have HK1 := Lib.hid hk1
  have HX1 := Lib.hid hx1
  have HP := Lib.hid hp
  have HXO := Lib.hid hxo
  have HSO := Lib.hid hs
  have HL := Lib.hid hl
  have HR := Lib.hid hr
  have HBT := Lib.hid hbt
  have HBL := Lib.hid hbl
  obtain ⟨n0, n1, n2, n3, n4, n5, n6, n7, n8, n9, n10⟩ := blk11 h.str
  have f5 := h.str.frozen 5
  have hs1 := hs.sent
  have HFT := Lib.hid (fate_any hset hF hu)
  have HFK : Hid (fateOf F used = ⟨4, (fateOf F used).n⟩) := by show _ = _; rw [← hf]
  obtain ⟨fn, hfn⟩ : ∃ k, k = (fateOf F used).n := ⟨_, rfl⟩
  obtain ⟨fk, hfk⟩ : ∃ k, k = (fateOf F used).kind := ⟨_, rfl⟩
  rw [← hfk] at hf
  rw [← hfk, ← hfn, hf] at HFT
  have HFN := Lib.hid hfn
  clear h hset hk1 hx hx1 hp hxo hs hl hr hF hu hfk hfn hf hbt hbl
  go_enter Try.func29, Try.ntmps29
  go_wp2_with fail
  clear n0 n1 n2 n3 n4 n5 n6 n7 n8 n9 n10 f5
  generalize w.setCell ⟨nb, 5, none⟩ (.int .i64 (s.sent + 1)) = w1 at *
  refine HFT.out.mono ?_
  rintro e w2 ⟨rfl, hn2, hk2⟩
  have hb3 : Below w2.heap.size w2 (w2.alloc (.cells #[.int .i64 4, .int .i64 fn] 39)) := (Below.refl _ w2).alloc (Nat.le_refl _) _
  have HN3 := Lib.hid (hn2.below hb3)
  have HK3 : Hid (Keep (fun q => col q ≠ 0) w (w2.alloc (.cells #[.int .i64 4, .int .i64 fn] 39))) :=
    ((HK1.out.trans hk2 (fun q _ e => e)).mono (fun q _ e => by rw [e, H.out.c1]; decide)).trans (Keep.none hb3) (fun _ _ h => h.elim)
  have HX3 : Hid (Reads (w2.alloc (.cells #[.int .i64 4, .int .i64 fn] 39)) 1 (.slice A bs.length c) bs.length (u8s bs)) :=
    (HX1.out.keep hk2 (fun g hg ps e => by have h1 := HXO.out g hg ps; have h2 := H.out.c1; rw [e] at h1; omega)).below hb3
  have HB3 := Lib.hid (Blk.new w2 #[.int .i64 4, .int .i64 fn] 39)
  have hne : ¬ nb = w2.heap.size := fun e => by have h1 := hn2.str.lt; omega
  have hne2 : ¬ w2.heap.size = nb := fun e => by have h1 := hn2.str.lt; omega
  obtain ⟨n0, n1, n2, n3, n4, n5, n6, n7, n8, n9, n10⟩ := blk11 HN3.out.str
  unfold StN.send at n5 n6 n7 n8 n9 n10
  have fz := HN3.out.str.frozen
  have HFZ := Lib.hid fz
  clear hn2 hk2 hb3 HS1 HK1 HX1 HFT fz
  have f10 := HFZ.out 10
  have hs2 := HSO.out.turned
  go_wp2_with fail
  have HN4 : Hid (NetAt ((w2.alloc (.cells #[.int .i64 4, .int .i64 fn] 39)).setCell ⟨nb, 10, none⟩ (.int .i64 (s.turned + 1))) col nb gd delay room pv P fv F (usedN F used) s.send.trn) := HN3.out.set (used' := usedN F used) (s' := s.send.trn) (i := 10) (u := .int .i64 (s.turned + 1)) rfl
  have hk4 : Keep (fun q => q = nb) (w2.alloc (.cells #[.int .i64 4, .int .i64 fn] 39)) ((w2.alloc (.cells #[.int .i64 4, .int .i64 fn] 39)).setCell ⟨nb, 10, none⟩ (.int .i64 (s.turned + 1))) := (Keep.refl (fun q => q = nb) _).setCell (p := ⟨nb, 10, none⟩) (.inl rfl) _
  have HK4 : Hid (Keep (fun q => col q ≠ 0) w ((w2.alloc (.cells #[.int .i64 4, .int .i64 fn] 39)).setCell ⟨nb, 10, none⟩ (.int .i64 (s.turned + 1)))) := HK3.out.trans hk4 (fun q _ e => by rw [e, H.out.c1]; decide)
  have HX4 : Hid (Reads ((w2.alloc (.cells #[.int .i64 4, .int .i64 fn] 39)).setCell ⟨nb, 10, none⟩ (.int .i64 (s.turned + 1))) 1 (.slice A bs.length c) bs.length (u8s bs)) := HX3.out.keep hk4 (fun g hg ps e => by have h1 := HXO.out g hg ps; have h2 := H.out.c1; rw [e] at h1; omega)
  clear hk4 n0 n1 n2 n3 n4 n5 n6 n7 n8 n9 n10
  generalize (w2.alloc (.cells #[.int .i64 4, .int .i64 fn] 39)).setCell ⟨nb, 10, none⟩ (.int .i64 (s.turned + 1)) = w4 at *
  refine (turn_any A c bs fn w4 HX4.out HBT.out (by have := HBL.out; omega)).mono ?_
  rintro e w5 ⟨A5, c5, rfl, ho5, hb5⟩
  have HN5 := Lib.hid (HN4.out.below hb5)
  have HK5 : Hid (Keep (fun q => col q ≠ 0) w w5) := HK4.out.trans (Keep.none hb5) (fun _ _ h => h.elim)
  have hl5 := turnI_len bs fn
  have HX5 : Hid (Reads w5 1 (.slice A5 (turnI bs fn).length c5) (turnI bs fn).length (u8s (turnI bs fn))) := by
    have := Reads.of_owns ho5
    rw [hl5]
    exact this
  clear ho5 hb5
  go_wp2_with fail
  have hlay := lay_l HN5.out HP.out (now + delay) A5 c5 (turnI bs fn) HX5.out HR.out (Nat.le_trans HL.out (by omega)) HSO.out.dropped
  rw [hl5] at hlay
  refine hlay.mono ?_
  rintro e w6 ⟨⟨v6, rfl⟩, r6⟩
  have HR6 := Lib.hid r6
  clear r6 hlay
  go_wp2
  refine bodyPost_end (v := .tuple #[]) (by simp [results, Try.results29, go_sem]) rfl ⟨⟨_, rfl⟩, ?_⟩
  refine NetR.from HK5.out (HR6.out.mono (fun l s h => .inr (.inr (.inr (.inl ⟨by rw [HFK.out], by rw [← HFN.out]; exact h⟩)))))
set_option maxRecDepth 100000 in
set_option maxHeartbeats 1000000 in
theorem give5 (h : NetAt w col nb gd delay room pv P fv F used s) (hp : P[i]? = some p) (now : Int) (A : Option Addr) (c : Nat) (bs : List Int) (hx : Reads w 1 (.slice A bs.length c) bs.length (u8s bs)) (hbt : BtsI bs) (hbl : bs.length ≤ 1000000) (hxo : ∀ g, (Value.slice A bs.length c).ownBlock = some g → 0 < bs.length → col g = 0)
    (hr : 0 ≤ room ∧ room ≤ 1000) (hl : p.l.length ≤ 10000) (hs : StOk s) (hF : F.length ≤ 1000000) (hu : used ≤ 1000000) (hd : 0 ≤ delay ∧ delay ≤ 64) (hn : 0 ≤ now ∧ now ≤ 1099511627776)
    (hf : (fateOf F used).kind < 1 ∨ 4 < (fateOf F used).kind) :
    Calls Try.prog 29 #[.pointer (some ⟨nb, 0, none⟩), .pointer (some ⟨p.b, 0, none⟩), .slice A bs.length c, .int .i64 now] w fun e w' => (∃ v, e = .returned v) ∧ NetR w w' col nb gd delay room pv P fv F (usedN F used) i p (GiveL room (fateOf F used) (now + delay) bs p.l s) := by
  have HKD := Lib.hid hf
  have H := Lib.hid h
  have hset : NetAt (w.setCell ⟨nb, 5, none⟩ (.int .i64 (s.sent + 1))) col nb gd delay room pv P fv F used s.send := h.set (used' := used) (s' := s.send) (i := 5) (u := .int .i64 (s.sent + 1)) rfl
  have hk1 : Keep (fun q => q = nb) w (w.setCell ⟨nb, 5, none⟩ (.int .i64 (s.sent + 1))) := (Keep.refl (fun q => q = nb) w).setCell (p := ⟨nb, 5, none⟩) (.inl rfl) _
  have hx1 : Reads (w.setCell ⟨nb, 5, none⟩ (.int .i64 (s.sent + 1))) 1 (.slice A bs.length c) bs.length (u8s bs) := hx.keep hk1 (fun g hg ps e => by have h1 := hxo g hg ps; have h2 := h.c1; rw [e] at h1; omega)
  have HS1 := Lib.hid hset
  have HK1 := Lib.hid hk1
  have HX1 := Lib.hid hx1
  have HP := Lib.hid hp
  have HXO := Lib.hid hxo
  have HSO := Lib.hid hs
  have HL := Lib.hid hl
  have HR := Lib.hid hr
  obtain ⟨n0, n1, n2, n3, n4, n5, n6, n7, n8, n9, n10⟩ := blk11 h.str
  have f5 := h.str.frozen 5
  have hs1 := hs.sent
  have HFT := Lib.hid (fate_any hset hF hu)
  obtain ⟨fk, hfk⟩ : ∃ k, k = (fateOf F used).kind := ⟨_, rfl⟩
  obtain ⟨fn, hfn⟩ : ∃ k, k = (fateOf F used).n := ⟨_, rfl⟩
  rw [← hfk, ← hfn] at HFT
  rw [← hfk] at hf
  have k1 : (fk == 1) = false := by simp; omega
  have k2 : (fk == 2) = false := by simp; omega
  have k3 : (fk == 3) = false := by simp; omega
  have k4 : (fk == 4) = false := by simp; omega
  clear h hset hk1 hx hx1 hp hxo hs hl hr hF hu hfk hfn hf
  go_enter Try.func29, Try.ntmps29
  go_wp2_with fail
  clear n0 n1 n2 n3 n4 n5 n6 n7 n8 n9 n10 f5
  generalize w.setCell ⟨nb, 5, none⟩ (.int .i64 (s.sent + 1)) = w1 at *
  refine HFT.out.mono ?_
  rintro e w2 ⟨rfl, hn2, hk2⟩
  have hb3 : Below w2.heap.size w2 (w2.alloc (.cells #[.int .i64 fk, .int .i64 fn] 39)) := (Below.refl _ w2).alloc (Nat.le_refl _) _
  have HN3 := Lib.hid (hn2.below hb3)
  have HK3 : Hid (Keep (fun q => col q ≠ 0) w (w2.alloc (.cells #[.int .i64 fk, .int .i64 fn] 39))) :=
    ((HK1.out.trans hk2 (fun q _ e => e)).mono (fun q _ e => by rw [e, H.out.c1]; decide)).trans (Keep.none hb3) (fun _ _ h => h.elim)
  have HX3 : Hid (Reads (w2.alloc (.cells #[.int .i64 fk, .int .i64 fn] 39)) 1 (.slice A bs.length c) bs.length (u8s bs)) :=
    (HX1.out.keep hk2 (fun g hg ps e => by have h1 := HXO.out g hg ps; have h2 := H.out.c1; rw [e] at h1; omega)).below hb3
  clear hn2 hk2 hb3
  go_wp2_with fail
  have HLY := Lib.hid (lay_l HN3.out HP.out (now + delay) A c bs HX3.out HR.out (Nat.le_trans HL.out (by omega)) HSO.out.dropped)
  refine HLY.out.mono ?_
  rintro e w4 ⟨⟨v4, rfl⟩, r4⟩
  have HR4 := Lib.hid r4
  clear r4
  go_wp2
  refine bodyPost_end (v := .tuple #[]) (by simp [results, Try.results29, go_sem]) rfl ⟨⟨_, rfl⟩, ?_⟩
  exact NetR.from HK3.out (HR4.out.mono (fun l s h => .inr (.inr (.inr (.inr ⟨HKD.out, h⟩)))))
theorem give_any (h : NetAt w col nb gd delay room pv P fv F used s) (hp : P[i]? = some p) (now : Int) (A : Option Addr) (c : Nat) (bs : List Int) (hx : Reads w 1 (.slice A bs.length c) bs.length (u8s bs)) (hbt : BtsI bs) (hbl : bs.length ≤ 1000000) (hxo : ∀ g, (Value.slice A bs.length c).ownBlock = some g → 0 < bs.length → col g = 0)
    (hr : 0 ≤ room ∧ room ≤ 1000) (hl : p.l.length ≤ 10000) (hs : StOk s) (hF : F.length ≤ 1000000) (hu : used ≤ 1000000) (hd : 0 ≤ delay ∧ delay ≤ 64) (hn : 0 ≤ now ∧ now ≤ 1099511627776) (hsd : s.dropped ≤ 999999999) :
    Calls Try.prog 29 #[.pointer (some ⟨nb, 0, none⟩), .pointer (some ⟨p.b, 0, none⟩), .slice A bs.length c, .int .i64 now] w fun e w' => (∃ v, e = .returned v) ∧ NetR w w' col nb gd delay room pv P fv F (usedN F used) i p (GiveL room (fateOf F used) (now + delay) bs p.l s) := by
  rcases (by omega : (fateOf F used).kind = 1 ∨ (fateOf F used).kind = 2 ∨ (fateOf F used).kind = 3 ∨ (fateOf F used).kind = 4 ∨ ((fateOf F used).kind < 1 ∨ 4 < (fateOf F used).kind)) with g | g | g | g | g
  · exact give1 h hp now A c bs hx hbt hbl hxo hr hl hs hF hu hd hn g
  · exact give2 h hp now A c bs hx hbt hbl hxo hr hl hs hF hu hd hn g hsd
  · exact give3 h hp now A c bs hx hbt hbl hxo hr hl hs hF hu hd hn g
  · exact give4 h hp now A c bs hx hbt hbl hxo hr hl hs hF hu hd hn g
  · exact give5 h hp now A c bs hx hbt hbl hxo hr hl hs hF hu hd hn g
end
end Go.Proofs.Ytlodiibmofeikaa
