/- simnet: give, of a message whose fate is a plain one. -/
import Derived.Test.YtlodiibmofeikaaNetLay
namespace Go.Proofs.Ytlodiibmofeikaa
open Go.RowKit
set_option linter.unusedVariables false
set_option linter.unusedSimpArgs false

section
variable {w w3 w' : World} {col : Nat → Nat} {nb : Nat} {gd : GD} {delay room : Int} {pv : Value} {P : List PD} {fv : Value} {F : List FD} {used : Nat} {s : StN}
def StN.send (s : StN) : StN := { s with sent := s.sent + 1 }
theorem LaidP.from {i : Nat} {due : Int} {bs : List Int} (hk : Keep (fun q => col q ≠ 0) w w3) (h : LaidP w3 w' col nb gd delay room pv P fv F used s i due bs) : LaidP w w' col nb gd delay room pv P fv F used s i due bs := by
  obtain ⟨⟨p, col', p', s', h1, h2, h3, h4⟩, h5⟩ := h
  exact ⟨⟨p, col', p', s', h1, h2, fun x hx => (h3 x hx).imp id (fun y => Nat.le_trans hk.size y), h4⟩, hk.trans h5 (fun q _ y => y)⟩
structure StOk (s : StN) : Prop where
  sent : 0 ≤ s.sent ∧ s.sent ≤ 1000000000
  lost : 0 ≤ s.lost ∧ s.lost ≤ 1000000000
  dropped : 0 ≤ s.dropped ∧ s.dropped ≤ 1000000000
  doubled : 0 ≤ s.doubled ∧ s.doubled ≤ 1000000000
  late : 0 ≤ s.late ∧ s.late ≤ 1000000000
  turned : 0 ≤ s.turned ∧ s.turned ≤ 1000000000
set_option maxRecDepth 100000 in
set_option maxHeartbeats 1000000 in
theorem give_plain (h : NetAt w col nb gd delay room pv P fv F used s) (i : Nat) (p : PD) (hp : P[i]? = some p) (now : Int) (A : Option Addr) (c : Nat) (bs : List Int) (hx : Reads w 1 (.slice A bs.length c) bs.length (u8s bs)) (hxo : ∀ g, (Value.slice A bs.length c).ownBlock = some g → col g = 0)
    (hr : 0 ≤ room ∧ room ≤ 1000) (hl : p.l.length ≤ 100000) (hs : StOk s) (hF : F.length ≤ 1000000) (hu : used ≤ 1000000) (hd : 0 ≤ delay ∧ delay ≤ 64) (hn : 0 ≤ now ∧ now ≤ 1099511627776)
    (hf : (fateOf F used).kind < 1 ∨ 4 < (fateOf F used).kind) :
    Calls Try.prog 29 #[.pointer (some ⟨nb, 0, none⟩), .pointer (some ⟨p.b, 0, none⟩), .slice A bs.length c, .int .i64 now] w fun e w' => (∃ v, e = .returned v) ∧ LaidP w w' col nb gd delay room pv P fv F (usedN F used) s.send i (now + delay) bs := by
  have H := Lib.hid h
  have hset : NetAt (w.setCell ⟨nb, 5, none⟩ (.int .i64 (s.sent + 1))) col nb gd delay room pv P fv F used s.send := h.set (used' := used) (s' := s.send) (i := 5) (u := .int .i64 (s.sent + 1)) rfl
  have hk1 : Keep (fun q => q = nb) w (w.setCell ⟨nb, 5, none⟩ (.int .i64 (s.sent + 1))) := (Keep.refl (fun q => q = nb) w).setCell (p := ⟨nb, 5, none⟩) (.inl rfl) _
  have hx1 : Reads (w.setCell ⟨nb, 5, none⟩ (.int .i64 (s.sent + 1))) 1 (.slice A bs.length c) bs.length (u8s bs) := hx.keep hk1 (fun g hg _ e => by have h1 := hxo g hg; have h2 := h.c1; rw [e] at h1; omega)
  have HS1 := Lib.hid hset
  have HK1 := Lib.hid hk1
  have HX1 := Lib.hid hx1
  have HP := Lib.hid hp
  have HXO := Lib.hid hxo
  have HSO := Lib.hid hs
  have HL := Lib.hid hl
  have HR := Lib.hid hr
  obtain ⟨n0, n1, n2, n3, n4, n5, n6, n7, n8, n9, n10⟩ := blk11 h.str
  have f5 := h.str.frozen 5
  have hs1 := hs.sent
  have HFT := Lib.hid (fate_any hset hF hu)
  obtain ⟨fk, hfk⟩ : ∃ k, k = (fateOf F used).kind := ⟨_, rfl⟩
  obtain ⟨fn, hfn⟩ : ∃ k, k = (fateOf F used).n := ⟨_, rfl⟩
  rw [← hfk, ← hfn] at HFT
  rw [← hfk] at hf
  have k1 : (fk == 1) = false := by simp; omega
  have k2 : (fk == 2) = false := by simp; omega
  have k3 : (fk == 3) = false := by simp; omega
  have k4 : (fk == 4) = false := by simp; omega
  clear h hset hk1 hx hx1 hp hxo hs hl hr hF hu hfk hfn hf
  go_enter Try.func29, Try.ntmps29
  go_wp2_with fail
  clear n0 n1 n2 n3 n4 n5 n6 n7 n8 n9 n10 f5
  generalize w.setCell ⟨nb, 5, none⟩ (.int .i64 (s.sent + 1)) = w1 at *
  refine HFT.out.mono ?_
  rintro e w2 ⟨rfl, hn2, hk2⟩
  have hb3 : Below w2.heap.size w2 (w2.alloc (.cells #[.int .i64 fk, .int .i64 fn] 39)) := (Below.refl _ w2).alloc (Nat.le_refl _) _
  have HN3 := Lib.hid (hn2.below hb3)
  have HK3 : Hid (Keep (fun q => col q ≠ 0) w (w2.alloc (.cells #[.int .i64 fk, .int .i64 fn] 39))) :=
    ((HK1.out.trans hk2 (fun q _ e => e)).mono (fun q _ e => by rw [e, H.out.c1]; decide)).trans (Keep.none hb3) (fun _ _ h => h.elim)
  have HX3 : Hid (Reads (w2.alloc (.cells #[.int .i64 fk, .int .i64 fn] 39)) 1 (.slice A bs.length c) bs.length (u8s bs)) :=
    (HX1.out.keep hk2 (fun g hg _ e => by have h1 := HXO.out g hg; have h2 := H.out.c1; rw [e] at h1; omega)).below hb3
  clear hn2 hk2 hb3
  go_wp2_with fail
  have HLY := Lib.hid (lay_any HN3.out i p HP.out (now + delay) A c bs HX3.out HR.out HL.out HSO.out.dropped)
  refine HLY.out.mono ?_
  rintro e w4 ⟨⟨v4, rfl⟩, r4⟩
  have HR4 := Lib.hid r4
  clear r4
  go_wp2
  refine bodyPost_end (v := .tuple #[]) (by simp [results, Try.results29, go_sem]) rfl ⟨⟨_, rfl⟩, ?_⟩
  exact HR4.out.from HK3.out
end
end Go.Proofs.Ytlodiibmofeikaa
