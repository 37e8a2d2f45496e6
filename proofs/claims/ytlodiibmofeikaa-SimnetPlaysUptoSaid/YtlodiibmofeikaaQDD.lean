/- simnet: may, fate, lay. -/
import Derived.Test.YtlodiibmofeikaaQCC
import Derived.Test.YtlodiibmofeikaaQBB
import Derived.Test.YtlodiibmofeikaaQAA
import Derived.Laws.BitsAllLaws
import Derived.Deep.RegionHeld3
import Derived.Deep.RegionLaw
import Derived.Deep.DrawnRows
import Derived.Lib.MinMax
namespace Go.Proofs.Ytlodiibmofeikaa
section
open Go.RowKit
set_option linter.unusedVariables false
set_option linter.unusedSimpArgs false

def mayB (n : Nat) (now : Int) : Bool := decide (0 ≤ now ∧ now ≤ 1099511627776 ∧ n ≤ 320)
theorem may_any (A : Option Addr) (n c : Nat) (now : Int) (w : World) :
    Calls Try.prog 27 #[.slice A n c, .int .i64 now] w fun e w' => e = .returned (.bool (mayB n now)) ∧ w = w' := by
  rcases (by omega : now < 0 ∨ (0 ≤ now ∧ 1099511627776 < now) ∨ (0 ≤ now ∧ now ≤ 1099511627776 ∧ n ≤ 320) ∨ (0 ≤ now ∧ now ≤ 1099511627776 ∧ 320 < n)) with g | ⟨g, g'⟩ | ⟨g, g', g2⟩ | ⟨g, g', g2⟩
  all_goals
    first
      | (have hh : mayB n now = true := decide_eq_true ⟨g, g', g2⟩; rw [hh])
      | (have hh : mayB n now = false := decide_eq_false (by omega); rw [hh])
    clear hh
    go_enter Try.func27, Try.ntmps27
    go_wp2
    go_ret
    exact ⟨by first | rfl | (simp; done) | (simp; omega), rfl⟩
section
variable {w : World} {col : Nat → Nat} {nb : Nat} {gd : GD} {delay room : Int} {pv : Value} {P : List PD} {fv : Value} {F : List FD} {used : Nat} {s : StN}
def StN.drop (s : StN) : StN := { s with dropped := s.dropped + 1 }
/-- what laying a message into the pipe i leaves -/
structure LaidP (w w' : World) (col : Nat → Nat) (nb : Nat) (gd : GD) (delay room : Int) (pv : Value) (P : List PD) (fv : Value) (F : List FD) (used : Nat) (s : StN) (i : Nat) (due : Int) (bs : List Int) : Prop where
  ex : ∃ p col' p' s', P[i]? = some p ∧ NetAt w' col' nb gd delay room pv (P.set i p') fv F used s' ∧ (∀ x, col' x ≠ 0 → col x ≠ 0 ∨ w.heap.size ≤ x) ∧
    ((putE p.l room due bs.length ≠ 0 ∧ p'.l = p.l ∧ s' = s.drop) ∨ (putE p.l room due bs.length = 0 ∧ s' = s ∧ ∃ m, p'.l = put1 p.l (dueN p.l due) m ∧ m.due = due ∧ m.bs = bs))
  kp : Keep (fun q => col q ≠ 0) w w'
set_option maxRecDepth 100000 in
theorem lay_any (h : NetAt w col nb gd delay room pv P fv F used s) (i : Nat) (p : PD) (hp : P[i]? = some p) (due : Int) (A : Option Addr) (c : Nat) (bs : List Int) (hx : Reads w 1 (.slice A bs.length c) bs.length (u8s bs)) (hr : 0 ≤ room ∧ room ≤ 1000) (hl : p.l.length ≤ 100000) (hs : 0 ≤ s.dropped ∧ s.dropped ≤ 1000000000) :
    Calls Try.prog 43 #[.pointer (some ⟨nb, 0, none⟩), .pointer (some ⟨p.b, 0, none⟩), .slice A bs.length c, .int .i64 due] w fun e w' => (∃ v, e = .returned v) ∧ LaidP w w' col nb gd delay room pv P fv F used s i due bs := by
  have H := Lib.hid h
  have HP := Lib.hid hp
  have hput := put_any p.b p.v p.l room due A bs.length c bs w (h.pipes i p hp) hl hr hx rfl
  have hgen : ∀ w2, PutR (fun x => col x = 5) w w2 (fun x => col x = 6 + i) p.b p.l room due bs.length bs → Keep (fun q => col q ≠ 0) w w2 ∧ ∃ col' p', NetAt w2 col' nb gd delay room pv (P.set i p') fv F used s ∧ (∀ x, col' x ≠ 0 → col x ≠ 0 ∨ w.heap.size ≤ x) ∧
      ((putE p.l room due bs.length ≠ 0 ∧ p'.l = p.l) ∨ (putE p.l room due bs.length = 0 ∧ ∃ m, p'.l = put1 p.l (dueN p.l due) m ∧ m.due = due ∧ m.bs = bs)) := fun w2 r => by
    obtain ⟨⟨v', l', h1, h2⟩, hk⟩ := r
    refine ⟨hk.mono (fun q _ e => by omega), _, ⟨p.b, v', l'⟩, h.pipe hp hk h1, fun x hx => ?_, h2⟩
    unfold setc at hx
    split at hx
    · exact .inr (by omega)
    · exact .inl hx
  have HG := Lib.hid hgen
  clear hgen
  by_cases he : putE p.l room due bs.length = 0
  · rw [he] at hput
    have HPU := Lib.hid hput
    have HE := Lib.hid he
    clear h hp hx hput he
    go_enter Try.func43, Try.ntmps43
    go_wp2_with fail
    refine HPU.out.mono ?_
    rintro e w2 ⟨rfl, r2⟩
    have HR := Lib.hid r2
    clear r2
    go_wp2
    refine bodyPost_end (v := .tuple #[]) (by simp [results, Try.results43, go_sem]) rfl ⟨⟨_, rfl⟩, ?_⟩
    obtain ⟨hk, col', p', h1, h2, h3⟩ := HG.out w2 HR.out
    rcases h3 with ⟨h3, -⟩ | ⟨h3, h4⟩
    · exact absurd HE.out h3
    · exact ⟨⟨p, col', p', s, HP.out, h1, h2, .inr ⟨HE.out, rfl, h4⟩⟩, hk⟩
  · have hcs : putE p.l room due bs.length = 11 ∨ putE p.l room due bs.length = 15 := by
      unfold putE at he ⊢
      split
      · exact .inl rfl
      · split
        · exact .inr rfl
        · rename_i g1 g2
          rw [if_neg g1, if_neg g2] at he
          exact absurd rfl he
    have HE := Lib.hid he
    clear he
    rcases hcs with e | e
    all_goals
      rw [e] at hput
      have HPU := Lib.hid hput
      clear h hp hx hput e
      go_enter Try.func43, Try.ntmps43
      go_wp2_with fail
      refine HPU.out.mono ?_
      rintro e w2 ⟨rfl, r2⟩
      obtain ⟨hk, col', p', h1, h2, h3⟩ := HG.out w2 r2
      have HK := Lib.hid hk
      have HN := Lib.hid h1
      have H2 := Lib.hid h2
      have H3 := Lib.hid h3
      obtain ⟨n0, n1, n2, n3, n4, n5, n6, n7, n8, n9, n10⟩ := blk11 h1.str
      have f7 := h1.str.frozen 7
      clear r2 hk h1 h2 h3
      go_wp2
      refine bodyPost_end (v := .tuple #[]) (by simp [results, Try.results43, go_sem]) rfl ⟨⟨_, rfl⟩, ?_⟩
      have hset := HN.out.set (s' := s.drop) (used' := used) (i := 7) (u := .int .i64 (s.dropped + 1)) rfl
      have hk2 : Keep (fun q => col q ≠ 0) w (w2.setCell ⟨nb, 7, none⟩ (.int .i64 (s.dropped + 1))) := HK.out.setCell (p := ⟨nb, 7, none⟩) (.inl (by rw [H.out.c1]; decide)) _
      rcases H3.out with ⟨h3, h4⟩ | ⟨h3, -⟩
      · exact ⟨⟨p, col', p', s.drop, HP.out, hset, H2.out, .inl ⟨h3, h4, rfl⟩⟩, hk2⟩
      · exact absurd h3 HE.out
def fateOf (F : List FD) (k : Nat) : FD := (F[k]?).getD ⟨0, 0⟩
def usedN (F : List FD) (k : Nat) : Nat := if k < F.length then k + 1 else k
set_option maxRecDepth 100000 in
theorem fate_any (h : NetAt w col nb gd delay room pv P fv F used s) (hF : F.length ≤ 1000000) (hu : used ≤ 1000000) :
    Calls Try.prog 42 #[.pointer (some ⟨nb, 0, none⟩)] w fun e w' => e = .returned (.agg #[.int .i64 (fateOf F used).kind, .int .i64 (fateOf F used).n]) ∧ NetAt w' col nb gd delay room pv P fv F (usedN F used) s ∧ Keep (fun q => q = nb) w w' := by
  obtain ⟨fA, fc, rfl⟩ := ownsRow_slice h.fates
  obtain ⟨k, hk⟩ : ∃ k, k = F.length := ⟨_, rfl⟩
  have H := Lib.hid h
  have hnlt := h.str.lt
  by_cases hlt : used < F.length
  · obtain ⟨n0, n1, n2, n3, n4, -⟩ := blk11 h.str
    have f4 := h.str.frozen 4
    obtain ⟨o, ho⟩ : ∃ o, F[used]? = some o := ⟨_, List.getElem?_eq_getElem hlt⟩
    have hff : fateOf F used = o := by unfold fateOf; rw [ho]; rfl
    have huu : usedN F used = used + 1 := if_pos hlt
    rw [hff, huu]
    obtain ⟨g, p, c', he, hc⟩ := Reads.elem (Reads.of_owns h.fates) fateCells_len (by omega) ho
    have o0 := hc 0 _ rfl
    have o1 := hc 1 _ rfl
    have hg5 := h.c5
    cases he
    have hgl : g ≠ nb := fun e => by have h1 := h.c5 g rfl; have h2 := h.c1; rw [e] at h1; omega
    have i1 : ¬ ((F.length : Int) ≤ (used : Int)) := by omega
    have i2 : (used : Int) < (F.length : Int) := by omega
    have i3 : (0 : Int) ≤ (used : Int) := by omega
    clear h hff huu hlt hk
    go_enter Try.func42, Try.ntmps42
    go_wp2_with fail
    go_quiet (fail)
    have HNB : Hid (Below w.heap.size w ((w.alloc (.cells #[.int .i64 0, .int .i64 0] 39)).drewN nq)) := below_drewN ((Below.refl _ w).alloc (Nat.le_refl _) _) nq
    have HBX0 : Hid (Blk ((w.alloc (.cells #[.int .i64 0, .int .i64 0] 39)).drewN nq) w.heap.size #[.int .i64 0, .int .i64 0] 39) := (Blk.new w _ _).drewN nq
    have HNZ := Lib.hid (H.out.below HNB.out)
    clear n0 n1 n2 n3 n4 f4
    generalize (w.alloc (.cells #[.int .i64 0, .int .i64 0] 39)).drewN nq = wz at *
    obtain ⟨n0, n1, n2, n3, n4, -⟩ := blk11 HNZ.out.str
    have f4 := HNZ.out.str.frozen 4
    go_wp2_with fail
    have HN5 : Hid (NetAt (wz.setCell ⟨nb, 4, none⟩ (.int .i64 ((used : Int) + 1))) col nb gd delay room pv P (.slice (some ⟨g, p, none⟩) F.length fc) F (used + 1) s) := HNZ.out.set (used' := used + 1) (s' := s) (i := 4) (u := .int .i64 ((used : Int) + 1)) rfl
    have hk5 : Keep (fun q => q = nb) wz (wz.setCell ⟨nb, 4, none⟩ (.int .i64 ((used : Int) + 1))) := (Keep.refl (fun q => q = nb) wz).setCell (p := ⟨nb, 4, none⟩) (.inl rfl) _
    have HK5 := Lib.hid hk5
    have HBX := Lib.hid (HBX0.out.keep hk5 (fun e => by omega))
    clear n0 n1 n2 n3 n4 f4 hk5 o0 o1
    generalize wz.setCell ⟨nb, 4, none⟩ (.int .i64 ((used : Int) + 1)) = w5 at *
    obtain ⟨n0, n1, n2, n3, n4, -⟩ := blk11 HN5.out.str
    replace n4 : w5.cell? ⟨nb, 4, none⟩ = some (.int .i64 ((used : Int) + 1)) := n4
    obtain ⟨g', p', c', he, hc⟩ := Reads.elem (Reads.of_owns HN5.out.fates) fateCells_len (by omega) ho
    cases he
    have o0 := hc 0 _ rfl
    have o1 := hc 1 _ rfl
    replace o0 : w5.cell? ⟨g, p + used * 2, none⟩ = some (.int .i64 o.kind) := o0
    replace o1 : w5.cell? ⟨g, p + used * 2 + 1, none⟩ = some (.int .i64 o.n) := o1
    obtain ⟨b0, b1⟩ := blk2 HBX.out
    have f0 := HBX.out.frozen 0
    have f1 := HBX.out.frozen 1
    have hk : Keep (fun q => q = w.heap.size) w5 ((w5.setCell ⟨w.heap.size, 0, none⟩ (.int .i64 o.kind)).setCell ⟨w.heap.size, 1, none⟩ (.int .i64 o.n)) := ((Keep.refl (fun q => q = w.heap.size) w5).setCell (p := ⟨w.heap.size, 0, none⟩) (.inl rfl) _).setCell (p := ⟨w.heap.size, 1, none⟩) (.inl rfl) _
    have hB : Blk ((w5.setCell ⟨w.heap.size, 0, none⟩ (.int .i64 o.kind)).setCell ⟨w.heap.size, 1, none⟩ (.int .i64 o.n)) w.heap.size #[.int .i64 o.kind, .int .i64 o.n] 39 := (Blk.set' (HBX.out.set' (cs' := #[.int .i64 o.kind, .int .i64 0]) rfl) rfl)
    obtain ⟨r0, r1⟩ := blk2 hB
    have HK := Lib.hid hk
    have hgw : g < w.heap.size := H.out.lt (by rw [hg5 g rfl]; decide)
    have key : ∀ {q : Addr} {v : Value}, q.block < w.heap.size → w5.cell? q = some v → ((w5.setCell ⟨w.heap.size, 0, none⟩ (.int .i64 o.kind)).setCell ⟨w.heap.size, 1, none⟩ (.int .i64 o.n)).drew.cell? q = some v := fun {q v} hq d => (hk.drew.cell (p := q) (World.block_lt_of_cell? _ _ d) (by omega)).trans d
    have hS9 : ((w5.setCell ⟨w.heap.size, 0, none⟩ (.int .i64 o.kind)).setCell ⟨w.heap.size, 1, none⟩ (.int .i64 o.n)).drew.cell? ⟨nb, 3, none⟩ = some (.slice (some ⟨g, p, none⟩) F.length fc) ∧ ((w5.setCell ⟨w.heap.size, 0, none⟩ (.int .i64 o.kind)).setCell ⟨w.heap.size, 1, none⟩ (.int .i64 o.n)).drew.cell? ⟨nb, 4, none⟩ = some (.int .i64 ((used : Int) + 1)) ∧ ((w5.setCell ⟨w.heap.size, 0, none⟩ (.int .i64 o.kind)).setCell ⟨w.heap.size, 1, none⟩ (.int .i64 o.n)).drew.cell? ⟨g, p + used * 2, none⟩ = some (.int .i64 o.kind) ∧ ((w5.setCell ⟨w.heap.size, 0, none⟩ (.int .i64 o.kind)).setCell ⟨w.heap.size, 1, none⟩ (.int .i64 o.n)).drew.cell? ⟨g, p + used * 2 + 1, none⟩ = some (.int .i64 o.n) :=
      ⟨key hnlt n3, key hnlt n4, key hgw o0, key hgw o1⟩
    have HS9 := Lib.hid hS9
    clear hS9 key
    have i4 : IntKind.i64.wrap (used : Int) = (used : Int) := IntWalk.i64_in _ (by omega)
    have i5 : wrap64 (used : Int) = (used : Int) := IntWalk.wrap64_in _ (by omega)
    clear hk hB hc
    go_region_held3 (fun w' => w'.cell? ⟨nb, 3, none⟩ = some (.slice (some ⟨g, p, none⟩) F.length fc) ∧ w'.cell? ⟨nb, 4, none⟩ = some (.int .i64 ((used : Int) + 1)) ∧ w'.cell? ⟨g, p + used * 2, none⟩ = some (.int .i64 o.kind) ∧ w'.cell? ⟨g, p + used * 2 + 1, none⟩ = some (.int .i64 o.n)) (first | exact ⟨n3, n4, o0, o1⟩ | exact HS9.out) (fail)
    clear i4 i5
    go_wp2
    refine bodyPost_ret (v := .agg #[.int .i64 o.kind, .int .i64 o.n]) (by simp [results, Try.results42, go_sem, r0, r1]) rfl ⟨rfl, ?_, ?_⟩
    · exact HN5.out.keep HK.out.drew (fun x hx e => by have := H.out.lt hx; omega)
    · exact ((Keep.ofBelowAll HNB.out : Keep (fun q => q = nb) w wz).trans HK5.out (fun q _ e => e)).trans HK.out.drew (fun q hq e => by omega)
  · obtain ⟨n0, n1, n2, n3, n4, -⟩ := blk11 h.str
    have hb0 : ∀ o, Below w.heap.size w (w.alloc o) := fun o => (Below.refl _ w).alloc (Nat.le_refl _) o
    have HB0 := Lib.hid hb0
    have hff : fateOf F used = ⟨0, 0⟩ := by unfold fateOf; rw [List.getElem?_eq_none (by omega)]; rfl
    have huu : usedN F used = used := if_neg hlt
    rw [hff, huu]
    have i1 : ((F.length : Int) ≤ (used : Int)) := by omega
    clear h hb0 hff huu hlt hk
    go_enter Try.func42, Try.ntmps42
    go_wp2_with fail
    go_quiet (fail)
    have HNB : Hid (Below w.heap.size w ((w.alloc (.cells #[.int .i64 0, .int .i64 0] 39)).drewN nq)) := below_drewN (HB0.out _) nq
    have HBX : Hid (Blk ((w.alloc (.cells #[.int .i64 0, .int .i64 0] 39)).drewN nq) w.heap.size #[.int .i64 0, .int .i64 0] 39) := (Blk.new w _ _).drewN nq
    clear n0 n1 n2 n3 n4
    generalize (w.alloc (.cells #[.int .i64 0, .int .i64 0] 39)).drewN nq = wz at *
    obtain ⟨b0, b1⟩ := blk2 HBX.out
    have f0 := HBX.out.frozen 0
    have f1 := HBX.out.frozen 1
    have hk : Keep (fun q => q = w.heap.size) wz ((wz.setCell ⟨w.heap.size, 0, none⟩ (.int .i64 0)).setCell ⟨w.heap.size, 1, none⟩ (.int .i64 0)) := ((Keep.refl (fun q => q = w.heap.size) wz).setCell (p := ⟨w.heap.size, 0, none⟩) (.inl rfl) _).setCell (p := ⟨w.heap.size, 1, none⟩) (.inl rfl) _
    have hB : Blk ((wz.setCell ⟨w.heap.size, 0, none⟩ (.int .i64 0)).setCell ⟨w.heap.size, 1, none⟩ (.int .i64 0)) w.heap.size #[.int .i64 0, .int .i64 0] 39 := (Blk.set' (HBX.out.set' (cs' := #[.int .i64 0, .int .i64 0]) rfl) rfl)
    obtain ⟨r0, r1⟩ := blk2 hB
    have HK := Lib.hid hk
    clear hk hB
    go_wp2
    refine bodyPost_ret (v := .agg #[.int .i64 0, .int .i64 0]) (by simp [results, Try.results42, go_sem, r0, r1]) rfl ⟨rfl, ?_, ?_⟩
    · exact (H.out.below HNB.out).keep HK.out (fun x hx e => by have := H.out.lt hx; omega)
    · exact (Keep.ofBelowAll HNB.out : Keep (fun q => q = nb) w wz).trans HK.out (fun q hq e => by omega)
end
end
section
open Go.RowKit
set_option linter.unusedVariables false
set_option linter.unusedSimpArgs false

section
variable {w w3 w' : World} {col : Nat → Nat} {nb : Nat} {gd : GD} {delay room : Int} {pv : Value} {P : List PD} {fv : Value} {F : List FD} {used : Nat} {s : StN}
def StN.send (s : StN) : StN := { s with sent := s.sent + 1 }
theorem LaidP.from {i : Nat} {due : Int} {bs : List Int} (hk : Keep (fun q => col q ≠ 0) w w3) (h : LaidP w3 w' col nb gd delay room pv P fv F used s i due bs) : LaidP w w' col nb gd delay room pv P fv F used s i due bs := by
  obtain ⟨⟨p, col', p', s', h1, h2, h3, h4⟩, h5⟩ := h
  exact ⟨⟨p, col', p', s', h1, h2, fun x hx => (h3 x hx).imp id (fun y => Nat.le_trans hk.size y), h4⟩, hk.trans h5 (fun q _ y => y)⟩
structure StOk (s : StN) : Prop where
  sent : 0 ≤ s.sent ∧ s.sent ≤ 1000000000
  lost : 0 ≤ s.lost ∧ s.lost ≤ 1000000000
  dropped : 0 ≤ s.dropped ∧ s.dropped ≤ 1000000000
  doubled : 0 ≤ s.doubled ∧ s.doubled ≤ 1000000000
  late : 0 ≤ s.late ∧ s.late ≤ 1000000000
  turned : 0 ≤ s.turned ∧ s.turned ≤ 1000000000
set_option maxRecDepth 100000 in
set_option maxHeartbeats 1000000 in
theorem give_plain (h : NetAt w col nb gd delay room pv P fv F used s) (i : Nat) (p : PD) (hp : P[i]? = some p) (now : Int) (A : Option Addr) (c : Nat) (bs : List Int) (hx : Reads w 1 (.slice A bs.length c) bs.length (u8s bs)) (hxo : ∀ g, (Value.slice A bs.length c).ownBlock = some g → col g = 0)
    (hr : 0 ≤ room ∧ room ≤ 1000) (hl : p.l.length ≤ 100000) (hs : StOk s) (hF : F.length ≤ 1000000) (hu : used ≤ 1000000) (hd : 0 ≤ delay ∧ delay ≤ 64) (hn : 0 ≤ now ∧ now ≤ 1099511627776)
    (hf : (fateOf F used).kind < 1 ∨ 4 < (fateOf F used).kind) :
    Calls Try.prog 29 #[.pointer (some ⟨nb, 0, none⟩), .pointer (some ⟨p.b, 0, none⟩), .slice A bs.length c, .int .i64 now] w fun e w' => (∃ v, e = .returned v) ∧ LaidP w w' col nb gd delay room pv P fv F (usedN F used) s.send i (now + delay) bs := by
  have H := Lib.hid h
  have hset : NetAt (w.setCell ⟨nb, 5, none⟩ (.int .i64 (s.sent + 1))) col nb gd delay room pv P fv F used s.send := h.set (used' := used) (s' := s.send) (i := 5) (u := .int .i64 (s.sent + 1)) rfl
  have hk1 : Keep (fun q => q = nb) w (w.setCell ⟨nb, 5, none⟩ (.int .i64 (s.sent + 1))) := (Keep.refl (fun q => q = nb) w).setCell (p := ⟨nb, 5, none⟩) (.inl rfl) _
  have hx1 : Reads (w.setCell ⟨nb, 5, none⟩ (.int .i64 (s.sent + 1))) 1 (.slice A bs.length c) bs.length (u8s bs) := hx.keep hk1 (fun g hg _ e => by have h1 := hxo g hg; have h2 := h.c1; rw [e] at h1; omega)
  have HS1 := Lib.hid hset
  have HK1 := Lib.hid hk1
  have HX1 := Lib.hid hx1
  have HP := Lib.hid hp
  have HXO := Lib.hid hxo
  have HSO := Lib.hid hs
  have HL := Lib.hid hl
  have HR := Lib.hid hr
  obtain ⟨n0, n1, n2, n3, n4, n5, n6, n7, n8, n9, n10⟩ := blk11 h.str
  have f5 := h.str.frozen 5
  have hs1 := hs.sent
  have HFT := Lib.hid (fate_any hset hF hu)
  obtain ⟨fk, hfk⟩ : ∃ k, k = (fateOf F used).kind := ⟨_, rfl⟩
  obtain ⟨fn, hfn⟩ : ∃ k, k = (fateOf F used).n := ⟨_, rfl⟩
  rw [← hfk, ← hfn] at HFT
  rw [← hfk] at hf
  have k1 : (fk == 1) = false := by simp; omega
  have k2 : (fk == 2) = false := by simp; omega
  have k3 : (fk == 3) = false := by simp; omega
  have k4 : (fk == 4) = false := by simp; omega
  clear h hset hk1 hx hx1 hp hxo hs hl hr hF hu hfk hfn hf
  go_enter Try.func29, Try.ntmps29
  go_wp2_with fail
  clear n0 n1 n2 n3 n4 n5 n6 n7 n8 n9 n10 f5
  generalize w.setCell ⟨nb, 5, none⟩ (.int .i64 (s.sent + 1)) = w1 at *
  refine HFT.out.mono ?_
  rintro e w2 ⟨rfl, hn2, hk2⟩
  have hb3 : Below w2.heap.size w2 (w2.alloc (.cells #[.int .i64 fk, .int .i64 fn] 39)) := (Below.refl _ w2).alloc (Nat.le_refl _) _
  have HN3 := Lib.hid (hn2.below hb3)
  have HK3 : Hid (Keep (fun q => col q ≠ 0) w (w2.alloc (.cells #[.int .i64 fk, .int .i64 fn] 39))) :=
    ((HK1.out.trans hk2 (fun q _ e => e)).mono (fun q _ e => by rw [e, H.out.c1]; decide)).trans (Keep.none hb3) (fun _ _ h => h.elim)
  have HX3 : Hid (Reads (w2.alloc (.cells #[.int .i64 fk, .int .i64 fn] 39)) 1 (.slice A bs.length c) bs.length (u8s bs)) :=
    (HX1.out.keep hk2 (fun g hg _ e => by have h1 := HXO.out g hg; have h2 := H.out.c1; rw [e] at h1; omega)).below hb3
  clear hn2 hk2 hb3
  go_wp2_with fail
  have HLY := Lib.hid (lay_any HN3.out i p HP.out (now + delay) A c bs HX3.out HR.out HL.out HSO.out.dropped)
  refine HLY.out.mono ?_
  rintro e w4 ⟨⟨v4, rfl⟩, r4⟩
  have HR4 := Lib.hid r4
  clear r4
  go_wp2
  refine bodyPost_end (v := .tuple #[]) (by simp [results, Try.results29, go_sem]) rfl ⟨⟨_, rfl⟩, ?_⟩
  exact HR4.out.from HK3.out
end
end
section
open Go.RowKit
set_option linter.unusedVariables false
set_option linter.unusedSimpArgs false

/-- the bit that is meant -/
def tbit (n : Nat) (bit : Int) : Nat := ((bit.tmod (8 * n) + 8 * n).tmod (8 * n)).toNat
def turnI (b : List Int) (bit : Int) : List Int := b.set (tbit b.length bit / 8) ((((b.getD (tbit b.length bit / 8) 0).toNat ^^^ 2 ^ (tbit b.length bit % 8) : Nat)) : Int)
theorem turnI_len (b : List Int) (bit : Int) : (turnI b bit).length = b.length := List.length_set ..
theorem tmod_lt {x n : Int} (hn : 0 < n) : -n < x.tmod n ∧ x.tmod n < n := ⟨by have := Int.tmod_lt_of_pos (-x) hn; rw [Int.neg_tmod] at this; omega, Int.tmod_lt_of_pos x hn⟩
theorem tbit_eq {n : Nat} (bit : Int) (hn : 0 < n) : (bit.tmod (8 * (n : Int)) + 8 * (n : Int)).tmod (8 * (n : Int)) = (tbit n bit : Int) ∧ tbit n bit < 8 * n := by
  have h1 := tmod_lt (x := bit) (n := 8 * (n : Int)) (by omega)
  have h2 : 0 ≤ (bit.tmod (8 * (n : Int)) + 8 * (n : Int)).tmod (8 * (n : Int)) := Int.tmod_nonneg _ (by omega)
  have h3 := Int.tmod_lt_of_pos (bit.tmod (8 * (n : Int)) + 8 * (n : Int)) (b := 8 * (n : Int)) (by omega)
  unfold tbit
  omega
def BtsI (b : List Int) : Prop := ∀ x ∈ b, 0 ≤ x ∧ x < 256
theorem btsI_at {b : List Int} (h : BtsI b) (k : Nat) : 0 ≤ b.getD k 0 ∧ b.getD k 0 < 256 := by
  rw [List.getD_eq_getElem?_getD]
  cases e : b[k]? with
  | none => simp
  | some x => exact h x (List.mem_of_getElem? e)
theorem u8s_setI (b : List Int) (i : Nat) (c : Int) : (u8s b).set i (.int .u8 c) = u8s (b.set i c) := by unfold u8s; rw [List.map_set]
theorem u8s_oneI (b : List Int) : ∀ u ∈ u8s b, u.oneCell' = true := by
  intro u hu
  unfold u8s at hu
  obtain ⟨x, -, rfl⟩ := List.mem_map.1 hu
  rfl
theorem xor256 {x r : Nat} (hx : x < 256) (hr : r < 8) : x ^^^ 2 ^ r < 256 := Nat.xor_lt_two_pow (n := 8) hx (by
  rcases (by omega : r = 0 ∨ r = 1 ∨ r = 2 ∨ r = 3 ∨ r = 4 ∨ r = 5 ∨ r = 6 ∨ r = 7) with rfl | rfl | rfl | rfl | rfl | rfl | rfl | rfl <;> decide)
theorem xorI_ne {x r : Nat} : x ^^^ 2 ^ r ≠ x := by
  intro h
  have h2 : x ^^^ (x ^^^ 2 ^ r) = x ^^^ x := by rw [h]
  rw [← Nat.xor_assoc, Nat.xor_self, Nat.zero_xor] at h2
  have := Nat.two_pow_pos r
  omega
theorem turnI_ne {b : List Int} (hb : BtsI b) (bit : Int) (h0 : b ≠ []) : turnI b bit ≠ b := by
  intro h
  have hl : 0 < b.length := List.length_pos_iff.2 h0
  have ht := (tbit_eq bit hl).2
  have hq : tbit b.length bit / 8 < b.length := by omega
  have hx := btsI_at hb (tbit b.length bit / 8)
  have h2 := congrArg (fun l : List Int => l.getD (tbit b.length bit / 8) 0) h
  replace h2 : (turnI b bit).getD (tbit b.length bit / 8) 0 = b.getD (tbit b.length bit / 8) 0 := h2
  have h3 : (turnI b bit).getD (tbit b.length bit / 8) 0 = ((((b.getD (tbit b.length bit / 8) 0).toNat ^^^ 2 ^ (tbit b.length bit % 8) : Nat)) : Int) := by
    rw [List.getD_eq_getElem?_getD]
    unfold turnI
    rw [List.getElem?_set_self hq]
    rfl
  rw [h3] at h2
  have h4 : (b.getD (tbit b.length bit / 8) 0).toNat ^^^ 2 ^ (tbit b.length bit % 8) = (b.getD (tbit b.length bit / 8) 0).toNat := by omega
  exact xorI_ne h4
theorem turnI_bts {b : List Int} (hb : BtsI b) (bit : Int) : BtsI (turnI b bit) := by
  intro x hx
  unfold turnI at hx
  rcases List.mem_or_eq_of_mem_set hx with h | rfl
  · exact hb x h
  · have h1 := btsI_at hb (tbit b.length bit / 8)
    have := xor256 (x := (b.getD (tbit b.length bit / 8) 0).toNat) (r := tbit b.length bit % 8) (by omega) (by omega)
    omega
theorem turnI_nil (bit : Int) : turnI [] bit = [] := rfl

set_option maxRecDepth 100000 in
theorem turn_nil (A : Option Addr) (c : Nat) (bit : Int) (w : World) (h : Reads w 1 (.slice A 0 c) 0 []) :
    Calls Try.prog 44 #[.slice A 0 c, .int .i64 bit] w fun e w' => ∃ A c, e = .returned (.slice A 0 c) ∧ w'.ownsRow w.heap.size 5 1 (.slice A 0 c) 0 [] ∧ Below w.heap.size w w' := by
  have HR := Lib.hid h
  clear h
  go_enter Try.func44, Try.ntmps44
  go_wp2_with fail
  refine (clone_byte _ 0 [] _ HR.out (by omega) (by simp)).mono ?_
  rintro e w1 ⟨A1, c1, rfl, ho, hb1, -⟩
  have HO := Lib.hid ho
  clear ho
  go_wp2
  go_ret
  exact ⟨_, _, rfl, HO.out, hb1⟩
set_option maxRecDepth 100000 in
set_option maxHeartbeats 1000000 in
theorem turn_pos (A : Option Addr) (c : Nat) (b : List Int) (bit : Int) (w : World) (h : Reads w 1 (.slice A b.length c) b.length (u8s b)) (hb : BtsI b) (hn : b.length ≤ 10000000) (h0 : 0 < b.length) :
    Calls Try.prog 44 #[.slice A b.length c, .int .i64 bit] w fun e w' => ∃ A c, e = .returned (.slice A b.length c) ∧ w'.ownsRow w.heap.size 5 1 (.slice A b.length c) b.length (u8s (turnI b bit)) ∧ Below w.heap.size w w' := by
  have e1 : IntKind.i64.wrap (8 * (b.length : Int)) = 8 * (b.length : Int) := IntWalk.i64_in _ (by omega)
  have e2 : (0 : Int) < 8 * (b.length : Int) := by omega
  have hm := tmod_lt (x := bit) e2
  have e3 : IntKind.i64.wrap (bit.tmod (8 * (b.length : Int)) + 8 * (b.length : Int)) = bit.tmod (8 * (b.length : Int)) + 8 * (b.length : Int) := IntWalk.i64_in _ (by omega)
  obtain ⟨e4, e5⟩ := tbit_eq bit h0
  obtain ⟨t, ht⟩ : ∃ t, t = turnI b bit := ⟨_, rfl⟩
  have HT : Hid (t = b.set (tbit b.length bit / 8) ((((b.getD (tbit b.length bit / 8) 0).toNat ^^^ 2 ^ (tbit b.length bit % 8) : Nat)) : Int)) := ht
  rw [← ht]
  obtain ⟨p, hp⟩ : ∃ p, p = tbit b.length bit := ⟨_, rfl⟩
  rw [← hp] at e4 e5 HT
  clear hm hp ht
  have HR := Lib.hid h
  clear h
  go_enter Try.func44, Try.ntmps44
  go_wp2_with fail
  refine (clone_byte _ b.length (u8s b) _ HR.out (by omega) (u8s_oneI _)).mono ?_
  rintro e w1 ⟨A1, c1, rfl, ho1, hb1, hn1⟩
  cases A1 with
  | none => exact absurd (ho1.2) (by rintro (⟨h, h'⟩ | ⟨g, cap, cur, h, _⟩) <;> simp_all)
  | some a1 =>
  have ho1' := ho1
  obtain ⟨g, o, sp⟩ := a1
  obtain ⟨rfl, rfl⟩ : o = 0 ∧ sp = none := by
    rcases ho1.2 with ⟨h, _⟩ | ⟨g, cap, cur, h, _⟩
    · cases h
    · cases h; exact ⟨rfl, rfl⟩
  have hpq : p / 8 < b.length := by omega
  have hcell := ownsRow_cell ho1 (show (u8s b)[p / 8]? = some (.int .u8 (b.getD (p / 8) 0)) by unfold u8s; rw [List.getElem?_map, List.getD_eq_getElem?_getD, List.getElem?_eq_getElem hpq]; rfl)
  have hfr := ownsRow_frozen ho1 (p / 8)
  have hd := btsI_at hb (p / 8)
  have hgb := (ho1.lt g rfl)
  obtain ⟨d, hdd⟩ : ∃ d, d = b.getD (p / 8) 0 := ⟨_, rfl⟩
  rw [← hdd] at hcell hd HT
  obtain ⟨r, hr⟩ : ∃ r, r = p % 8 := ⟨_, rfl⟩
  have hr8 : r < 8 := by omega
  obtain ⟨q, hq⟩ : ∃ q, q = p / 8 := ⟨_, rfl⟩
  have hq8 : q < b.length := by omega
  rw [← hr, ← hq] at HT
  rw [← hq] at hcell hfr
  obtain ⟨y, hy⟩ : ∃ y, y = d.toNat ^^^ 2 ^ r := ⟨_, rfl⟩
  rw [← hy] at HT
  have HS := Lib.hid (ownsRow_set ho1 (j := q) (by unfold u8s; rw [List.length_map]; omega) (.int .u8 (y : Int)))
  have HB1 := Lib.hid hb1
  have HG := Lib.hid hgb
  have j1 : (p : Int).tdiv 8 = (q : Int) := by rw [Int.tdiv_eq_ediv_of_nonneg (by omega)]; omega
  have j2 : (p : Int).tmod 8 = (r : Int) := by rw [Int.tmod_eq_emod_of_nonneg (by omega)]; omega
  clear ho1 ho1' hb1 hgb hn1
  have j3 : (p : Int) / 8 = (q : Int) := by omega
  have j4 : (p : Int) % 8 = (r : Int) := by omega
  have j5 : (0 : Int) ≤ (q : Int) := by omega
  have j6 : (q : Int) < (b.length : Int) := by omega
  have ex : bits .xor .u8 d (((2 ^ r : Nat)) : Int) = (y : Int) := by
    have h1 := u8_xor_nat d.toNat (2 ^ r) (by omega) (by
      rcases (by omega : r = 0 ∨ r = 1 ∨ r = 2 ∨ r = 3 ∨ r = 4 ∨ r = 5 ∨ r = 6 ∨ r = 7) with rfl | rfl | rfl | rfl | rfl | rfl | rfl | rfl <;> decide)
    rw [show ((d.toNat : Nat) : Int) = d by omega] at h1
    rw [hy]
    exact h1
  clear hy hr hq hdd e5 hb
  go_wp2_with fail
  clear e4 e3
  have j7 : IntKind.i64.wrap (q : Int) = (q : Int) := IntWalk.i64_in _ (by omega)
  have fin : ∀ u : Int, u = (y : Int) → (w1.drew.setCell ⟨g, q, none⟩ (.int .u8 u)).ownsRow w.heap.size 5 1 (.slice (some ⟨g, 0, none⟩) b.length c1) b.length (u8s t) := by
    rintro u rfl
    have h2 : (w1.drew.setCell ⟨g, q, none⟩ (.int .u8 (y : Int))).ownsRow w.heap.size 5 1 (.slice (some ⟨g, 0, none⟩) b.length c1) b.length ((u8s b).set q (.int .u8 (y : Int))) := HS.out
    rw [u8s_setI] at h2
    rw [HT.out]
    exact h2
  have FIN := Lib.hid fin
  clear fin
  have hk : ∀ u, Below w.heap.size w (w1.drew.setCell ⟨g, q, none⟩ u) := fun u => (below_drewN HB1.out 1).setCell HG.out.1 _
  have HK := Lib.hid hk
  clear hk
  have ex0 := ex
  clear ex
  rcases (by omega : r = 0 ∨ r = 1 ∨ r = 2 ∨ r = 3 ∨ r = 4 ∨ r = 5 ∨ r = 6 ∨ r = 7) with rfl | rfl | rfl | rfl | rfl | rfl | rfl | rfl
  · have ex : bits .xor .u8 d 1 = (y : Int) := ex0
    have EX := Lib.hid ex
    clear ex0 ex
    go_region
    go_wp2
    go_ret
    exact ⟨_, _, rfl, FIN.out _ EX.out, HK.out _⟩
  · have ex : bits .xor .u8 d 2 = (y : Int) := ex0
    have EX := Lib.hid ex
    clear ex0 ex
    go_region
    go_wp2
    go_ret
    exact ⟨_, _, rfl, FIN.out _ EX.out, HK.out _⟩
  · have ex : bits .xor .u8 d 4 = (y : Int) := ex0
    have EX := Lib.hid ex
    clear ex0 ex
    go_region
    go_wp2
    go_ret
    exact ⟨_, _, rfl, FIN.out _ EX.out, HK.out _⟩
  · have ex : bits .xor .u8 d 8 = (y : Int) := ex0
    have EX := Lib.hid ex
    clear ex0 ex
    go_region
    go_wp2
    go_ret
    exact ⟨_, _, rfl, FIN.out _ EX.out, HK.out _⟩
  · have ex : bits .xor .u8 d 16 = (y : Int) := ex0
    have EX := Lib.hid ex
    clear ex0 ex
    go_region
    go_wp2
    go_ret
    exact ⟨_, _, rfl, FIN.out _ EX.out, HK.out _⟩
  · have ex : bits .xor .u8 d 32 = (y : Int) := ex0
    have EX := Lib.hid ex
    clear ex0 ex
    go_region
    go_wp2
    go_ret
    exact ⟨_, _, rfl, FIN.out _ EX.out, HK.out _⟩
  · have ex : bits .xor .u8 d 64 = (y : Int) := ex0
    have EX := Lib.hid ex
    clear ex0 ex
    go_region
    go_wp2
    go_ret
    exact ⟨_, _, rfl, FIN.out _ EX.out, HK.out _⟩
  · have ex : bits .xor .u8 d 128 = (y : Int) := ex0
    have EX := Lib.hid ex
    clear ex0 ex
    go_region
    go_wp2
    go_ret
    exact ⟨_, _, rfl, FIN.out _ EX.out, HK.out _⟩
theorem turn_any (A : Option Addr) (c : Nat) (b : List Int) (bit : Int) (w : World) (h : Reads w 1 (.slice A b.length c) b.length (u8s b)) (hb : BtsI b) (hn : b.length ≤ 10000000) :
    Calls Try.prog 44 #[.slice A b.length c, .int .i64 bit] w fun e w' => ∃ A c, e = .returned (.slice A b.length c) ∧ w'.ownsRow w.heap.size 5 1 (.slice A b.length c) b.length (u8s (turnI b bit)) ∧ Below w.heap.size w w' := by
  rcases Nat.eq_zero_or_pos b.length with h0 | h0
  · obtain rfl : b = [] := List.eq_nil_of_length_eq_zero h0
    exact turn_nil A c bit w h
  · exact turn_pos A c b bit w h hb hn h0
end
section
open Go.RowKit
set_option linter.unusedVariables false
set_option linter.unusedSimpArgs false

/-- one copy is laid -/
def LayL (room due : Int) (bs : List Int) (l : List Msg) (s : StN) (l' : List Msg) (s' : StN) : Prop :=
  (putE l room due bs.length ≠ 0 ∧ l' = l ∧ s' = s.drop) ∨ (putE l room due bs.length = 0 ∧ s' = s ∧ ∃ m, l' = put1 l (dueN l due) m ∧ m.due = due ∧ m.bs = bs)
/-- the pipe i has changed, and the counts -/
structure NetR (w w' : World) (col : Nat → Nat) (nb : Nat) (gd : GD) (delay room : Int) (pv : Value) (P : List PD) (fv : Value) (F : List FD) (used : Nat) (i : Nat) (p : PD) (Q : List Msg → StN → Prop) : Prop where
  ex : ∃ col' v' l' s', NetAt w' col' nb gd delay room pv (P.set i ⟨p.b, v', l'⟩) fv F used s' ∧ (∀ x, x < w.heap.size → col' x = col x) ∧ Q l' s'
  kp : Keep (fun q => col q ≠ 0 ∧ col q ≠ 5) w w'
section
variable {w w3 w' : World} {col : Nat → Nat} {nb : Nat} {gd : GD} {delay room : Int} {pv : Value} {P : List PD} {fv : Value} {F : List FD} {used : Nat} {s : StN} {i : Nat} {p : PD} {Q Q' : List Msg → StN → Prop}
theorem NetR.from (hk : Keep (fun q => col q ≠ 0 ∧ col q ≠ 5) w w3) (h : NetR w3 w' col nb gd delay room pv P fv F used i p Q) : NetR w w' col nb gd delay room pv P fv F used i p Q := by
  obtain ⟨⟨col', v', l', s', h1, h2, h3⟩, h4⟩ := h
  exact ⟨⟨col', v', l', s', h1, fun x hx => h2 x (Nat.lt_of_lt_of_le hx hk.size), h3⟩, hk.trans h4 (fun q _ y => y)⟩
theorem NetR.mono (h : NetR w w' col nb gd delay room pv P fv F used i p Q) (hq : ∀ l s, Q l s → Q' l s) : NetR w w' col nb gd delay room pv P fv F used i p Q' := by
  obtain ⟨⟨col', v', l', s', h1, h2, h3⟩, h4⟩ := h
  exact ⟨⟨col', v', l', s', h1, h2, hq _ _ h3⟩, h4⟩
/-- a second one behind the first -/
theorem NetR.then {col3 : Nat → Nat} {v3 : Value} {l3 : List Msg} (hk : Keep (fun q => col q ≠ 0 ∧ col q ≠ 5) w w3) (hc : ∀ x, x < w.heap.size → col3 x = col x) (h : NetR w3 w' col3 nb gd delay room pv (P.set i ⟨p.b, v3, l3⟩) fv F used i ⟨p.b, v3, l3⟩ Q) : NetR w w' col nb gd delay room pv P fv F used i p Q := by
  obtain ⟨⟨col', v', l', s', h1, h2, h3⟩, h4⟩ := h
  rw [List.set_set] at h1
  exact ⟨⟨col', v', l', s', h1, fun x hx => (h2 x (Nat.lt_of_lt_of_le hx hk.size)).trans (hc x hx), h3⟩, hk.trans h4 (fun q hq y => by rw [hc q hq] at y; exact y)⟩
set_option maxRecDepth 100000 in
theorem lay_l (h : NetAt w col nb gd delay room pv P fv F used s) (hp : P[i]? = some p) (due : Int) (A : Option Addr) (c : Nat) (bs : List Int) (hx : Reads w 1 (.slice A bs.length c) bs.length (u8s bs)) (hr : 0 ≤ room ∧ room ≤ 1000) (hl : p.l.length ≤ 100000) (hs : 0 ≤ s.dropped ∧ s.dropped ≤ 1000000000) :
    Calls Try.prog 43 #[.pointer (some ⟨nb, 0, none⟩), .pointer (some ⟨p.b, 0, none⟩), .slice A bs.length c, .int .i64 due] w fun e w' => (∃ v, e = .returned v) ∧ NetR w w' col nb gd delay room pv P fv F used i p (LayL room due bs p.l s) := by
  have H := Lib.hid h
  have HP := Lib.hid hp
  have hput := put_any p.b p.v p.l room due A bs.length c bs w (h.pipes i p hp) hl hr hx rfl
  have hgen : ∀ w2, PutR (fun x => col x = 5) w w2 (fun x => col x = 6 + i) p.b p.l room due bs.length bs → Keep (fun q => col q ≠ 0 ∧ col q ≠ 5) w w2 ∧ ∃ col' v' l', NetAt w2 col' nb gd delay room pv (P.set i ⟨p.b, v', l'⟩) fv F used s ∧ (∀ x, x < w.heap.size → col' x = col x) ∧
      ((putE p.l room due bs.length ≠ 0 ∧ l' = p.l) ∨ (putE p.l room due bs.length = 0 ∧ ∃ m, l' = put1 p.l (dueN p.l due) m ∧ m.due = due ∧ m.bs = bs)) := fun w2 r => by
    obtain ⟨⟨v', l', h1, h2⟩, hk⟩ := r
    refine ⟨hk.mono (fun q _ e => by omega), _, v', l', h.pipe hp hk h1, fun x hx => setc_lo hx, h2⟩
  have HG := Lib.hid hgen
  clear hgen
  by_cases he : putE p.l room due bs.length = 0
  · rw [he] at hput
    have HPU := Lib.hid hput
    have HE := Lib.hid he
    clear h hp hx hput he
    go_enter Try.func43, Try.ntmps43
    go_wp2_with fail
    refine HPU.out.mono ?_
    rintro e w2 ⟨rfl, r2⟩
    have HR := Lib.hid r2
    clear r2
    go_wp2
    refine bodyPost_end (v := .tuple #[]) (by simp [results, Try.results43, go_sem]) rfl ⟨⟨_, rfl⟩, ?_⟩
    obtain ⟨hk, col', v', l', h1, h2, h3⟩ := HG.out w2 HR.out
    rcases h3 with ⟨h3, -⟩ | ⟨h3, h4⟩
    · exact absurd HE.out h3
    · exact ⟨⟨col', v', l', s, h1, h2, .inr ⟨HE.out, rfl, h4⟩⟩, hk⟩
  · have hcs : putE p.l room due bs.length = 11 ∨ putE p.l room due bs.length = 15 := by
      unfold putE at he ⊢
      split
      · exact .inl rfl
      · split
        · exact .inr rfl
        · rename_i g1 g2
          rw [if_neg g1, if_neg g2] at he
          exact absurd rfl he
    have HE := Lib.hid he
    clear he
    rcases hcs with e | e
    all_goals
      rw [e] at hput
      have HPU := Lib.hid hput
      clear h hp hx hput e
      go_enter Try.func43, Try.ntmps43
      go_wp2_with fail
      refine HPU.out.mono ?_
      rintro e w2 ⟨rfl, r2⟩
      obtain ⟨hk, col', v', l', h1, h2, h3⟩ := HG.out w2 r2
      have HK := Lib.hid hk
      have HN := Lib.hid h1
      have H2 := Lib.hid h2
      have H3 := Lib.hid h3
      obtain ⟨n0, n1, n2, n3, n4, n5, n6, n7, n8, n9, n10⟩ := blk11 h1.str
      have f7 := h1.str.frozen 7
      clear r2 hk h1 h2 h3
      go_wp2
      refine bodyPost_end (v := .tuple #[]) (by simp [results, Try.results43, go_sem]) rfl ⟨⟨_, rfl⟩, ?_⟩
      have hset := HN.out.set (s' := s.drop) (used' := used) (i := 7) (u := .int .i64 (s.dropped + 1)) rfl
      have hk2 : Keep (fun q => col q ≠ 0 ∧ col q ≠ 5) w (w2.setCell ⟨nb, 7, none⟩ (.int .i64 (s.dropped + 1))) := HK.out.setCell (p := ⟨nb, 7, none⟩) (.inl (by rw [H.out.c1]; decide)) _
      rcases H3.out with ⟨h3, h4⟩ | ⟨h3, -⟩
      · exact ⟨⟨col', v', l', s.drop, hset, H2.out, .inl ⟨h3, h4, rfl⟩⟩, hk2⟩
      · exact absurd h3 HE.out
def StN.lose (s : StN) : StN := { s with lost := s.lost + 1 }
def StN.dbl (s : StN) : StN := { s with doubled := s.doubled + 1 }
def StN.lat (s : StN) : StN := { s with late := s.late + 1 }
def StN.trn (s : StN) : StN := { s with turned := s.turned + 1 }
def clamp (n : Int) : Int := min (max n 0) 64
theorem clamp_range (n : Int) : 0 ≤ clamp n ∧ clamp n ≤ 64 := by unfold clamp; omega
/-- a message to one -/
def GiveL (room : Int) (f : FD) (due : Int) (bs : List Int) (l : List Msg) (s : StN) (l' : List Msg) (s' : StN) : Prop :=
  (f.kind = 1 ∧ l' = l ∧ s' = s.send.lose) ∨ (f.kind = 2 ∧ ∃ l1 s1, LayL room due bs l s.send.dbl l1 s1 ∧ LayL room due bs l1 s1 l' s') ∨ (f.kind = 3 ∧ LayL room (due + clamp f.n) bs l s.send.lat l' s') ∨
    (f.kind = 4 ∧ LayL room due (turnI bs f.n) l s.send.trn l' s') ∨ ((f.kind < 1 ∨ 4 < f.kind) ∧ LayL room due bs l s.send l' s')
end
end
section
open Go.RowKit
set_option linter.unusedVariables false
set_option linter.unusedSimpArgs false
theorem set_self {α : Type} {l : List α} {i : Nat} {x : α} (h : l[i]? = some x) : l.set i x = l := by
  refine List.ext_getElem? fun j => ?_
  rw [List.getElem?_set]
  split
  · rename_i e
    subst e
    have := (List.getElem?_eq_some_iff.1 h).1
    have h2 := List.getElem?_eq_getElem this
    rw [h] at h2
    simp [this, Option.some.inj h2]
  · rfl
theorem lay_more {room due : Int} {bs : List Int} {l l' : List Msg} {s s' : StN} (h : LayL room due bs l s l' s') (hl : l.length ≤ 10000) (hs : 0 ≤ s.dropped ∧ s.dropped ≤ 1000000000) (hs2 : s.dropped ≤ 999999999) : l'.length ≤ 100000 ∧ 0 ≤ s'.dropped ∧ s'.dropped ≤ 1000000000 := by
  rcases h with ⟨-, rfl, rfl⟩ | ⟨-, rfl, m, rfl, -⟩
  · refine ⟨by omega, ?_⟩
    unfold StN.drop
    simp only
    omega
  · refine ⟨?_, hs⟩
    unfold put1
    have h1 : dueN l due ≤ l.length := dueN_le l due
    simp only [List.length_append, List.length_cons, List.length_take, List.length_drop]
    omega
section
variable {w : World} {col : Nat → Nat} {nb : Nat} {gd : GD} {delay room : Int} {pv : Value} {P : List PD} {fv : Value} {F : List FD} {used : Nat} {s : StN} {i : Nat} {p : PD}
set_option maxRecDepth 100000 in
set_option maxHeartbeats 1000000 in
theorem give1 (h : NetAt w col nb gd delay room pv P fv F used s) (hp : P[i]? = some p) (now : Int) (A : Option Addr) (c : Nat) (bs : List Int) (hx : Reads w 1 (.slice A bs.length c) bs.length (u8s bs)) (hbt : BtsI bs) (hbl : bs.length ≤ 1000000) (hxo : ∀ g, (Value.slice A bs.length c).ownBlock = some g → 0 < bs.length → col g = 0)
    (hr : 0 ≤ room ∧ room ≤ 1000) (hl : p.l.length ≤ 10000) (hs : StOk s) (hF : F.length ≤ 1000000) (hu : used ≤ 1000000) (hd : 0 ≤ delay ∧ delay ≤ 64) (hn : 0 ≤ now ∧ now ≤ 1099511627776)
    (hf : (fateOf F used).kind = 1) :
    Calls Try.prog 29 #[.pointer (some ⟨nb, 0, none⟩), .pointer (some ⟨p.b, 0, none⟩), .slice A bs.length c, .int .i64 now] w fun e w' => (∃ v, e = .returned v) ∧ NetR w w' col nb gd delay room pv P fv F (usedN F used) i p (GiveL room (fateOf F used) (now + delay) bs p.l s) := by
  have H := Lib.hid h
  have hset : NetAt (w.setCell ⟨nb, 5, none⟩ (.int .i64 (s.sent + 1))) col nb gd delay room pv P fv F used s.send := h.set (used' := used) (s' := s.send) (i := 5) (u := .int .i64 (s.sent + 1)) rfl
  have hk1 : Keep (fun q => q = nb) w (w.setCell ⟨nb, 5, none⟩ (.int .i64 (s.sent + 1))) := (Keep.refl (fun q => q = nb) w).setCell (p := ⟨nb, 5, none⟩) (.inl rfl) _
  have hx1 : Reads (w.setCell ⟨nb, 5, none⟩ (.int .i64 (s.sent + 1))) 1 (.slice A bs.length c) bs.length (u8s bs) := hx.keep hk1 (fun g hg ps e => by have h1 := hxo g hg ps; have h2 := h.c1; rw [e] at h1; omega)
  have HS1 := Lib.hid hset
  have HK1 := Lib.hid hk1
  have HX1 := Lib.hid hx1
  have HP := Lib.hid hp
  have HXO := Lib.hid hxo
  have HSO := Lib.hid hs
  have HL := Lib.hid hl
  have HR := Lib.hid hr
  have HBT := Lib.hid hbt
  have HBL := Lib.hid hbl
  obtain ⟨n0, n1, n2, n3, n4, n5, n6, n7, n8, n9, n10⟩ := blk11 h.str
  have f5 := h.str.frozen 5
  have hs1 := hs.sent
  have HFT := Lib.hid (fate_any hset hF hu)
  have HFK : Hid (fateOf F used = ⟨1, (fateOf F used).n⟩) := by show _ = _; rw [← hf]
  obtain ⟨fn, hfn⟩ : ∃ k, k = (fateOf F used).n := ⟨_, rfl⟩
  obtain ⟨fk, hfk⟩ : ∃ k, k = (fateOf F used).kind := ⟨_, rfl⟩
  rw [← hfk] at hf
  rw [← hfk, ← hfn, hf] at HFT
  have HFN := Lib.hid hfn
  clear h hset hk1 hx hx1 hp hxo hs hl hr hF hu hfk hfn hf hbt hbl
  go_enter Try.func29, Try.ntmps29
  go_wp2_with fail
  clear n0 n1 n2 n3 n4 n5 n6 n7 n8 n9 n10 f5
  generalize w.setCell ⟨nb, 5, none⟩ (.int .i64 (s.sent + 1)) = w1 at *
  refine HFT.out.mono ?_
  rintro e w2 ⟨rfl, hn2, hk2⟩
  have hb3 : Below w2.heap.size w2 (w2.alloc (.cells #[.int .i64 1, .int .i64 fn] 39)) := (Below.refl _ w2).alloc (Nat.le_refl _) _
  have HN3 := Lib.hid (hn2.below hb3)
  have HK3 : Hid (Keep (fun q => col q ≠ 0 ∧ col q ≠ 5) w (w2.alloc (.cells #[.int .i64 1, .int .i64 fn] 39))) :=
    ((HK1.out.trans hk2 (fun q _ e => e)).mono (fun q _ e => by rw [e, H.out.c1]; decide)).trans (Keep.none hb3) (fun _ _ h => h.elim)
  have HX3 : Hid (Reads (w2.alloc (.cells #[.int .i64 1, .int .i64 fn] 39)) 1 (.slice A bs.length c) bs.length (u8s bs)) :=
    (HX1.out.keep hk2 (fun g hg ps e => by have h1 := HXO.out g hg ps; have h2 := H.out.c1; rw [e] at h1; omega)).below hb3
  have HB3 := Lib.hid (Blk.new w2 #[.int .i64 1, .int .i64 fn] 39)
  have hne : ¬ nb = w2.heap.size := fun e => by have h1 := hn2.str.lt; omega
  have hne2 : ¬ w2.heap.size = nb := fun e => by have h1 := hn2.str.lt; omega
  obtain ⟨n0, n1, n2, n3, n4, n5, n6, n7, n8, n9, n10⟩ := blk11 HN3.out.str
  unfold StN.send at n5 n6 n7 n8 n9 n10
  have fz := HN3.out.str.frozen
  have HFZ := Lib.hid fz
  clear hn2 hk2 hb3 HS1 HK1 HX1 HFT fz
  have f6 := HFZ.out 6
  have hs2 := HSO.out.lost
  go_wp2
  refine bodyPost_ret (v := .tuple #[]) (by simp [results, Try.results29, go_sem]) rfl ⟨⟨_, rfl⟩, ?_⟩
  have HN4 : Hid (NetAt ((w2.alloc (.cells #[.int .i64 1, .int .i64 fn] 39)).setCell ⟨nb, 6, none⟩ (.int .i64 (s.lost + 1))) col nb gd delay room pv P fv F (usedN F used) s.send.lose) := HN3.out.set (used' := usedN F used) (s' := s.send.lose) (i := 6) (u := .int .i64 (s.lost + 1)) rfl
  have hk4 : Keep (fun q => col q ≠ 0 ∧ col q ≠ 5) w ((w2.alloc (.cells #[.int .i64 1, .int .i64 fn] 39)).setCell ⟨nb, 6, none⟩ (.int .i64 (s.lost + 1))) := HK3.out.setCell (p := ⟨nb, 6, none⟩) (.inl (by rw [H.out.c1]; decide)) _
  have hset : P.set i ⟨p.b, p.v, p.l⟩ = P := set_self HP.out
  exact ⟨⟨col, p.v, p.l, _, by rw [hset]; exact HN4.out, fun _ _ => rfl, .inl ⟨by rw [HFK.out], rfl, rfl⟩⟩, hk4⟩
set_option maxRecDepth 100000 in
set_option maxHeartbeats 1000000 in
theorem give2 (h : NetAt w col nb gd delay room pv P fv F used s) (hp : P[i]? = some p) (now : Int) (A : Option Addr) (c : Nat) (bs : List Int) (hx : Reads w 1 (.slice A bs.length c) bs.length (u8s bs)) (hbt : BtsI bs) (hbl : bs.length ≤ 1000000) (hxo : ∀ g, (Value.slice A bs.length c).ownBlock = some g → 0 < bs.length → col g = 0)
    (hr : 0 ≤ room ∧ room ≤ 1000) (hl : p.l.length ≤ 10000) (hs : StOk s) (hF : F.length ≤ 1000000) (hu : used ≤ 1000000) (hd : 0 ≤ delay ∧ delay ≤ 64) (hn : 0 ≤ now ∧ now ≤ 1099511627776)
    (hf : (fateOf F used).kind = 2) (hsd : s.dropped ≤ 999999999) :
    Calls Try.prog 29 #[.pointer (some ⟨nb, 0, none⟩), .pointer (some ⟨p.b, 0, none⟩), .slice A bs.length c, .int .i64 now] w fun e w' => (∃ v, e = .returned v) ∧ NetR w w' col nb gd delay room pv P fv F (usedN F used) i p (GiveL room (fateOf F used) (now + delay) bs p.l s) := by
  have HSD : Hid (s.send.dbl.dropped ≤ 999999999) := hsd
  have H := Lib.hid h
  have hset : NetAt (w.setCell ⟨nb, 5, none⟩ (.int .i64 (s.sent + 1))) col nb gd delay room pv P fv F used s.send := h.set (used' := used) (s' := s.send) (i := 5) (u := .int .i64 (s.sent + 1)) rfl
  have hk1 : Keep (fun q => q = nb) w (w.setCell ⟨nb, 5, none⟩ (.int .i64 (s.sent + 1))) := (Keep.refl (fun q => q = nb) w).setCell (p := ⟨nb, 5, none⟩) (.inl rfl) _
  have hx1 : Reads (w.setCell ⟨nb, 5, none⟩ (.int .i64 (s.sent + 1))) 1 (.slice A bs.length c) bs.length (u8s bs) := hx.keep hk1 (fun g hg ps e => by have h1 := hxo g hg ps; have h2 := h.c1; rw [e] at h1; omega)
  have HS1 := Lib.hid hset
  have HK1 := Lib.hid hk1
  have HX1 := Lib.hid hx1
  have HP := Lib.hid hp
  have HXO := Lib.hid hxo
  have HSO := Lib.hid hs
  have HL := Lib.hid hl
  have HR := Lib.hid hr
  have HBT := Lib.hid hbt
  have HBL := Lib.hid hbl
  obtain ⟨n0, n1, n2, n3, n4, n5, n6, n7, n8, n9, n10⟩ := blk11 h.str
  have f5 := h.str.frozen 5
  have hs1 := hs.sent
  have HFT := Lib.hid (fate_any hset hF hu)
  have HFK : Hid (fateOf F used = ⟨2, (fateOf F used).n⟩) := by show _ = _; rw [← hf]
  obtain ⟨fn, hfn⟩ : ∃ k, k = (fateOf F used).n := ⟨_, rfl⟩
  obtain ⟨fk, hfk⟩ : ∃ k, k = (fateOf F used).kind := ⟨_, rfl⟩
  rw [← hfk] at hf
  rw [← hfk, ← hfn, hf] at HFT
  have HFN := Lib.hid hfn
  clear h hset hk1 hx hx1 hp hxo hs hl hr hF hu hfk hfn hf hbt hbl hsd
  go_enter Try.func29, Try.ntmps29
  go_wp2_with fail
  clear n0 n1 n2 n3 n4 n5 n6 n7 n8 n9 n10 f5
  generalize w.setCell ⟨nb, 5, none⟩ (.int .i64 (s.sent + 1)) = w1 at *
  refine HFT.out.mono ?_
  rintro e w2 ⟨rfl, hn2, hk2⟩
  have hb3 : Below w2.heap.size w2 (w2.alloc (.cells #[.int .i64 2, .int .i64 fn] 39)) := (Below.refl _ w2).alloc (Nat.le_refl _) _
  have HN3 := Lib.hid (hn2.below hb3)
  have HK3 : Hid (Keep (fun q => col q ≠ 0 ∧ col q ≠ 5) w (w2.alloc (.cells #[.int .i64 2, .int .i64 fn] 39))) :=
    ((HK1.out.trans hk2 (fun q _ e => e)).mono (fun q _ e => by rw [e, H.out.c1]; decide)).trans (Keep.none hb3) (fun _ _ h => h.elim)
  have HX3 : Hid (Reads (w2.alloc (.cells #[.int .i64 2, .int .i64 fn] 39)) 1 (.slice A bs.length c) bs.length (u8s bs)) :=
    (HX1.out.keep hk2 (fun g hg ps e => by have h1 := HXO.out g hg ps; have h2 := H.out.c1; rw [e] at h1; omega)).below hb3
  have HB3 := Lib.hid (Blk.new w2 #[.int .i64 2, .int .i64 fn] 39)
  have hne : ¬ nb = w2.heap.size := fun e => by have h1 := hn2.str.lt; omega
  have hne2 : ¬ w2.heap.size = nb := fun e => by have h1 := hn2.str.lt; omega
  obtain ⟨n0, n1, n2, n3, n4, n5, n6, n7, n8, n9, n10⟩ := blk11 HN3.out.str
  unfold StN.send at n5 n6 n7 n8 n9 n10
  have fz := HN3.out.str.frozen
  have HFZ := Lib.hid fz
  clear hn2 hk2 hb3 HS1 HK1 HX1 HFT fz
  have f8 := HFZ.out 8
  have hs2 := HSO.out.doubled
  go_wp2_with fail
  have HN4 : Hid (NetAt ((w2.alloc (.cells #[.int .i64 2, .int .i64 fn] 39)).setCell ⟨nb, 8, none⟩ (.int .i64 (s.doubled + 1))) col nb gd delay room pv P fv F (usedN F used) s.send.dbl) := HN3.out.set (used' := usedN F used) (s' := s.send.dbl) (i := 8) (u := .int .i64 (s.doubled + 1)) rfl
  have hk4 : Keep (fun q => q = nb) (w2.alloc (.cells #[.int .i64 2, .int .i64 fn] 39)) ((w2.alloc (.cells #[.int .i64 2, .int .i64 fn] 39)).setCell ⟨nb, 8, none⟩ (.int .i64 (s.doubled + 1))) := (Keep.refl (fun q => q = nb) _).setCell (p := ⟨nb, 8, none⟩) (.inl rfl) _
  have HK4 : Hid (Keep (fun q => col q ≠ 0 ∧ col q ≠ 5) w ((w2.alloc (.cells #[.int .i64 2, .int .i64 fn] 39)).setCell ⟨nb, 8, none⟩ (.int .i64 (s.doubled + 1)))) := HK3.out.trans hk4 (fun q _ e => by rw [e, H.out.c1]; decide)
  have HX4 : Hid (Reads ((w2.alloc (.cells #[.int .i64 2, .int .i64 fn] 39)).setCell ⟨nb, 8, none⟩ (.int .i64 (s.doubled + 1))) 1 (.slice A bs.length c) bs.length (u8s bs)) := HX3.out.keep hk4 (fun g hg ps e => by have h1 := HXO.out g hg ps; have h2 := H.out.c1; rw [e] at h1; omega)
  clear hk4 n0 n1 n2 n3 n4 n5 n6 n7 n8 n9 n10
  generalize (w2.alloc (.cells #[.int .i64 2, .int .i64 fn] 39)).setCell ⟨nb, 8, none⟩ (.int .i64 (s.doubled + 1)) = w4 at *
  refine (lay_l HN4.out HP.out (now + delay) A c bs HX4.out HR.out (Nat.le_trans HL.out (by omega)) HSO.out.dropped).mono ?_
  rintro e w5 ⟨⟨v5, rfl⟩, ⟨⟨col5, v5, l5, s5, hn5, hc5, hq5⟩, hk5⟩⟩
  have HN5 := Lib.hid hn5
  have HC5 := Lib.hid hc5
  have HQ5 := Lib.hid hq5
  have HK5 := Lib.hid hk5
  have HX5 : Hid (Reads w5 1 (.slice A bs.length c) bs.length (u8s bs)) := HX4.out.keep hk5 (fun g hg ps e => e.1 (HXO.out g hg ps))
  have HL5 : Hid (l5.length ≤ 100000 ∧ 0 ≤ s5.dropped ∧ s5.dropped ≤ 1000000000) := lay_more hq5 HL.out HSO.out.dropped HSD.out
  clear hn5 hc5 hq5 hk5
  go_wp2_with fail
  have hP5 : (P.set i ⟨p.b, v5, l5⟩)[i]? = some ⟨p.b, v5, l5⟩ := by rw [List.getElem?_set_self (List.getElem?_eq_some_iff.1 HP.out).1]
  refine (lay_l HN5.out hP5 (now + delay) A c bs HX5.out HR.out HL5.out.1 HL5.out.2).mono ?_
  rintro e w6 ⟨⟨v6, rfl⟩, r6⟩
  have HR6 := Lib.hid r6
  clear r6 hP5
  go_wp2
  refine bodyPost_end (v := .tuple #[]) (by simp [results, Try.results29, go_sem]) rfl ⟨⟨_, rfl⟩, ?_⟩
  refine NetR.from HK4.out (NetR.then HK5.out HC5.out (HR6.out.mono (fun l s h => .inr (.inl ⟨by rw [HFK.out], _, _, HQ5.out, h⟩))))
set_option maxRecDepth 100000 in
set_option maxHeartbeats 1000000 in
theorem give3 (h : NetAt w col nb gd delay room pv P fv F used s) (hp : P[i]? = some p) (now : Int) (A : Option Addr) (c : Nat) (bs : List Int) (hx : Reads w 1 (.slice A bs.length c) bs.length (u8s bs)) (hbt : BtsI bs) (hbl : bs.length ≤ 1000000) (hxo : ∀ g, (Value.slice A bs.length c).ownBlock = some g → 0 < bs.length → col g = 0)
    (hr : 0 ≤ room ∧ room ≤ 1000) (hl : p.l.length ≤ 10000) (hs : StOk s) (hF : F.length ≤ 1000000) (hu : used ≤ 1000000) (hd : 0 ≤ delay ∧ delay ≤ 64) (hn : 0 ≤ now ∧ now ≤ 1099511627776)
    (hf : (fateOf F used).kind = 3) :
    Calls Try.prog 29 #[.pointer (some ⟨nb, 0, none⟩), .pointer (some ⟨p.b, 0, none⟩), .slice A bs.length c, .int .i64 now] w fun e w' => (∃ v, e = .returned v) ∧ NetR w w' col nb gd delay room pv P fv F (usedN F used) i p (GiveL room (fateOf F used) (now + delay) bs p.l s) := by
  have H := Lib.hid h
  have hset : NetAt (w.setCell ⟨nb, 5, none⟩ (.int .i64 (s.sent + 1))) col nb gd delay room pv P fv F used s.send := h.set (used' := used) (s' := s.send) (i := 5) (u := .int .i64 (s.sent + 1)) rfl
  have hk1 : Keep (fun q => q = nb) w (w.setCell ⟨nb, 5, none⟩ (.int .i64 (s.sent + 1))) := (Keep.refl (fun q => q = nb) w).setCell (p := ⟨nb, 5, none⟩) (.inl rfl) _
  have hx1 : Reads (w.setCell ⟨nb, 5, none⟩ (.int .i64 (s.sent + 1))) 1 (.slice A bs.length c) bs.length (u8s bs) := hx.keep hk1 (fun g hg ps e => by have h1 := hxo g hg ps; have h2 := h.c1; rw [e] at h1; omega)
  have HS1 := Lib.hid hset
  have HK1 := Lib.hid hk1
  have HX1 := Lib.hid hx1
  have HP := Lib.hid hp
  have HXO := Lib.hid hxo
  have HSO := Lib.hid hs
  have HL := Lib.hid hl
  have HR := Lib.hid hr
  have HBT := Lib.hid hbt
  have HBL := Lib.hid hbl
  obtain ⟨n0, n1, n2, n3, n4, n5, n6, n7, n8, n9, n10⟩ := blk11 h.str
  have f5 := h.str.frozen 5
  have hs1 := hs.sent
  have HFT := Lib.hid (fate_any hset hF hu)
  have HFK : Hid (fateOf F used = ⟨3, (fateOf F used).n⟩) := by show _ = _; rw [← hf]
  obtain ⟨fn, hfn⟩ : ∃ k, k = (fateOf F used).n := ⟨_, rfl⟩
  obtain ⟨fk, hfk⟩ : ∃ k, k = (fateOf F used).kind := ⟨_, rfl⟩
  rw [← hfk] at hf
  rw [← hfk, ← hfn, hf] at HFT
  have HFN := Lib.hid hfn
  clear h hset hk1 hx hx1 hp hxo hs hl hr hF hu hfk hfn hf hbt hbl
  go_enter Try.func29, Try.ntmps29
  go_wp2_with fail
  clear n0 n1 n2 n3 n4 n5 n6 n7 n8 n9 n10 f5
  generalize w.setCell ⟨nb, 5, none⟩ (.int .i64 (s.sent + 1)) = w1 at *
  refine HFT.out.mono ?_
  rintro e w2 ⟨rfl, hn2, hk2⟩
  have hb3 : Below w2.heap.size w2 (w2.alloc (.cells #[.int .i64 3, .int .i64 fn] 39)) := (Below.refl _ w2).alloc (Nat.le_refl _) _
  have HN3 := Lib.hid (hn2.below hb3)
  have HK3 : Hid (Keep (fun q => col q ≠ 0 ∧ col q ≠ 5) w (w2.alloc (.cells #[.int .i64 3, .int .i64 fn] 39))) :=
    ((HK1.out.trans hk2 (fun q _ e => e)).mono (fun q _ e => by rw [e, H.out.c1]; decide)).trans (Keep.none hb3) (fun _ _ h => h.elim)
  have HX3 : Hid (Reads (w2.alloc (.cells #[.int .i64 3, .int .i64 fn] 39)) 1 (.slice A bs.length c) bs.length (u8s bs)) :=
    (HX1.out.keep hk2 (fun g hg ps e => by have h1 := HXO.out g hg ps; have h2 := H.out.c1; rw [e] at h1; omega)).below hb3
  have HB3 := Lib.hid (Blk.new w2 #[.int .i64 3, .int .i64 fn] 39)
  have hne : ¬ nb = w2.heap.size := fun e => by have h1 := hn2.str.lt; omega
  have hne2 : ¬ w2.heap.size = nb := fun e => by have h1 := hn2.str.lt; omega
  obtain ⟨n0, n1, n2, n3, n4, n5, n6, n7, n8, n9, n10⟩ := blk11 HN3.out.str
  unfold StN.send at n5 n6 n7 n8 n9 n10
  have fz := HN3.out.str.frozen
  have HFZ := Lib.hid fz
  clear hn2 hk2 hb3 HS1 HK1 HX1 HFT fz
  have hcl := clamp_range fn
  have j1 : IntKind.i64.wrap (now + delay + clamp fn) = now + delay + clamp fn := IntWalk.i64_in _ (by omega)
  unfold clamp at j1 hcl
  have f9 := HFZ.out 9
  have hs2 := HSO.out.late
  go_wp2_with fail
  have HN4 : Hid (NetAt ((w2.alloc (.cells #[.int .i64 3, .int .i64 fn] 39)).setCell ⟨nb, 9, none⟩ (.int .i64 (s.late + 1))) col nb gd delay room pv P fv F (usedN F used) s.send.lat) := HN3.out.set (used' := usedN F used) (s' := s.send.lat) (i := 9) (u := .int .i64 (s.late + 1)) rfl
  have hk4 : Keep (fun q => q = nb) (w2.alloc (.cells #[.int .i64 3, .int .i64 fn] 39)) ((w2.alloc (.cells #[.int .i64 3, .int .i64 fn] 39)).setCell ⟨nb, 9, none⟩ (.int .i64 (s.late + 1))) := (Keep.refl (fun q => q = nb) _).setCell (p := ⟨nb, 9, none⟩) (.inl rfl) _
  have HK4 : Hid (Keep (fun q => col q ≠ 0 ∧ col q ≠ 5) w ((w2.alloc (.cells #[.int .i64 3, .int .i64 fn] 39)).setCell ⟨nb, 9, none⟩ (.int .i64 (s.late + 1)))) := HK3.out.trans hk4 (fun q _ e => by rw [e, H.out.c1]; decide)
  have HX4 : Hid (Reads ((w2.alloc (.cells #[.int .i64 3, .int .i64 fn] 39)).setCell ⟨nb, 9, none⟩ (.int .i64 (s.late + 1))) 1 (.slice A bs.length c) bs.length (u8s bs)) := HX3.out.keep hk4 (fun g hg ps e => by have h1 := HXO.out g hg ps; have h2 := H.out.c1; rw [e] at h1; omega)
  clear hk4 n0 n1 n2 n3 n4 n5 n6 n7 n8 n9 n10
  generalize (w2.alloc (.cells #[.int .i64 3, .int .i64 fn] 39)).setCell ⟨nb, 9, none⟩ (.int .i64 (s.late + 1)) = w4 at *
  refine (lay_l HN4.out HP.out (now + delay + clamp fn) A c bs HX4.out HR.out (Nat.le_trans HL.out (by omega)) HSO.out.dropped).mono ?_
  rintro e w5 ⟨⟨v5, rfl⟩, r6⟩
  have HR6 := Lib.hid r6
  clear r6
  go_wp2
  refine bodyPost_end (v := .tuple #[]) (by simp [results, Try.results29, go_sem]) rfl ⟨⟨_, rfl⟩, ?_⟩
  refine NetR.from HK4.out (HR6.out.mono (fun l s h => .inr (.inr (.inl ⟨by rw [HFK.out], by rw [← HFN.out]; exact h⟩))))
set_option maxRecDepth 100000 in
set_option maxHeartbeats 1000000 in
theorem give4 (h : NetAt w col nb gd delay room pv P fv F used s) (hp : P[i]? = some p) (now : Int) (A : Option Addr) (c : Nat) (bs : List Int) (hx : Reads w 1 (.slice A bs.length c) bs.length (u8s bs)) (hbt : BtsI bs) (hbl : bs.length ≤ 1000000) (hxo : ∀ g, (Value.slice A bs.length c).ownBlock = some g → 0 < bs.length → col g = 0)
    (hr : 0 ≤ room ∧ room ≤ 1000) (hl : p.l.length ≤ 10000) (hs : StOk s) (hF : F.length ≤ 1000000) (hu : used ≤ 1000000) (hd : 0 ≤ delay ∧ delay ≤ 64) (hn : 0 ≤ now ∧ now ≤ 1099511627776)
    (hf : (fateOf F used).kind = 4) :
    Calls Try.prog 29 #[.pointer (some ⟨nb, 0, none⟩), .pointer (some ⟨p.b, 0, none⟩), .slice A bs.length c, .int .i64 now] w fun e w' => (∃ v, e = .returned v) ∧ NetR w w' col nb gd delay room pv P fv F (usedN F used) i p (GiveL room (fateOf F used) (now + delay) bs p.l s) := by
  have H := Lib.hid h
  have hset : NetAt (w.setCell ⟨nb, 5, none⟩ (.int .i64 (s.sent + 1))) col nb gd delay room pv P fv F used s.send := h.set (used' := used) (s' := s.send) (i := 5) (u := .int .i64 (s.sent + 1)) rfl
  have hk1 : Keep (fun q => q = nb) w (w.setCell ⟨nb, 5, none⟩ (.int .i64 (s.sent + 1))) := (Keep.refl (fun q => q = nb) w).setCell (p := ⟨nb, 5, none⟩) (.inl rfl) _
  have hx1 : Reads (w.setCell ⟨nb, 5, none⟩ (.int .i64 (s.sent + 1))) 1 (.slice A bs.length c) bs.length (u8s bs) := hx.keep hk1 (fun g hg ps e => by have h1 := hxo g hg ps; have h2 := h.c1; rw [e] at h1; omega)
  have HS1 := Lib.hid hset
  have HK1 := Lib.hid hk1
  have HX1 := Lib.hid hx1
  have HP := Lib.hid hp
  have HXO := Lib.hid hxo
  have HSO := Lib.hid hs
  have HL := Lib.hid hl
  have HR := Lib.hid hr
  have HBT := Lib.hid hbt
  have HBL := Lib.hid hbl
  obtain ⟨n0, n1, n2, n3, n4, n5, n6, n7, n8, n9, n10⟩ := blk11 h.str
  have f5 := h.str.frozen 5
  have hs1 := hs.sent
  have HFT := Lib.hid (fate_any hset hF hu)
  have HFK : Hid (fateOf F used = ⟨4, (fateOf F used).n⟩) := by show _ = _; rw [← hf]
  obtain ⟨fn, hfn⟩ : ∃ k, k = (fateOf F used).n := ⟨_, rfl⟩
  obtain ⟨fk, hfk⟩ : ∃ k, k = (fateOf F used).kind := ⟨_, rfl⟩
  rw [← hfk] at hf
  rw [← hfk, ← hfn, hf] at HFT
  have HFN := Lib.hid hfn
  clear h hset hk1 hx hx1 hp hxo hs hl hr hF hu hfk hfn hf hbt hbl
  go_enter Try.func29, Try.ntmps29
  go_wp2_with fail
  clear n0 n1 n2 n3 n4 n5 n6 n7 n8 n9 n10 f5
  generalize w.setCell ⟨nb, 5, none⟩ (.int .i64 (s.sent + 1)) = w1 at *
  refine HFT.out.mono ?_
  rintro e w2 ⟨rfl, hn2, hk2⟩
  have hb3 : Below w2.heap.size w2 (w2.alloc (.cells #[.int .i64 4, .int .i64 fn] 39)) := (Below.refl _ w2).alloc (Nat.le_refl _) _
  have HN3 := Lib.hid (hn2.below hb3)
  have HK3 : Hid (Keep (fun q => col q ≠ 0 ∧ col q ≠ 5) w (w2.alloc (.cells #[.int .i64 4, .int .i64 fn] 39))) :=
    ((HK1.out.trans hk2 (fun q _ e => e)).mono (fun q _ e => by rw [e, H.out.c1]; decide)).trans (Keep.none hb3) (fun _ _ h => h.elim)
  have HX3 : Hid (Reads (w2.alloc (.cells #[.int .i64 4, .int .i64 fn] 39)) 1 (.slice A bs.length c) bs.length (u8s bs)) :=
    (HX1.out.keep hk2 (fun g hg ps e => by have h1 := HXO.out g hg ps; have h2 := H.out.c1; rw [e] at h1; omega)).below hb3
  have HB3 := Lib.hid (Blk.new w2 #[.int .i64 4, .int .i64 fn] 39)
  have hne : ¬ nb = w2.heap.size := fun e => by have h1 := hn2.str.lt; omega
  have hne2 : ¬ w2.heap.size = nb := fun e => by have h1 := hn2.str.lt; omega
  obtain ⟨n0, n1, n2, n3, n4, n5, n6, n7, n8, n9, n10⟩ := blk11 HN3.out.str
  unfold StN.send at n5 n6 n7 n8 n9 n10
  have fz := HN3.out.str.frozen
  have HFZ := Lib.hid fz
  clear hn2 hk2 hb3 HS1 HK1 HX1 HFT fz
  have f10 := HFZ.out 10
  have hs2 := HSO.out.turned
  go_wp2_with fail
  have HN4 : Hid (NetAt ((w2.alloc (.cells #[.int .i64 4, .int .i64 fn] 39)).setCell ⟨nb, 10, none⟩ (.int .i64 (s.turned + 1))) col nb gd delay room pv P fv F (usedN F used) s.send.trn) := HN3.out.set (used' := usedN F used) (s' := s.send.trn) (i := 10) (u := .int .i64 (s.turned + 1)) rfl
  have hk4 : Keep (fun q => q = nb) (w2.alloc (.cells #[.int .i64 4, .int .i64 fn] 39)) ((w2.alloc (.cells #[.int .i64 4, .int .i64 fn] 39)).setCell ⟨nb, 10, none⟩ (.int .i64 (s.turned + 1))) := (Keep.refl (fun q => q = nb) _).setCell (p := ⟨nb, 10, none⟩) (.inl rfl) _
  have HK4 : Hid (Keep (fun q => col q ≠ 0 ∧ col q ≠ 5) w ((w2.alloc (.cells #[.int .i64 4, .int .i64 fn] 39)).setCell ⟨nb, 10, none⟩ (.int .i64 (s.turned + 1)))) := HK3.out.trans hk4 (fun q _ e => by rw [e, H.out.c1]; decide)
  have HX4 : Hid (Reads ((w2.alloc (.cells #[.int .i64 4, .int .i64 fn] 39)).setCell ⟨nb, 10, none⟩ (.int .i64 (s.turned + 1))) 1 (.slice A bs.length c) bs.length (u8s bs)) := HX3.out.keep hk4 (fun g hg ps e => by have h1 := HXO.out g hg ps; have h2 := H.out.c1; rw [e] at h1; omega)
  clear hk4 n0 n1 n2 n3 n4 n5 n6 n7 n8 n9 n10
  generalize (w2.alloc (.cells #[.int .i64 4, .int .i64 fn] 39)).setCell ⟨nb, 10, none⟩ (.int .i64 (s.turned + 1)) = w4 at *
  refine (turn_any A c bs fn w4 HX4.out HBT.out (by have := HBL.out; omega)).mono ?_
  rintro e w5 ⟨A5, c5, rfl, ho5, hb5⟩
  have HN5 := Lib.hid (HN4.out.below hb5)
  have HK5 : Hid (Keep (fun q => col q ≠ 0 ∧ col q ≠ 5) w w5) := HK4.out.trans (Keep.none hb5) (fun _ _ h => h.elim)
  have hl5 := turnI_len bs fn
  have HX5 : Hid (Reads w5 1 (.slice A5 (turnI bs fn).length c5) (turnI bs fn).length (u8s (turnI bs fn))) := by
    have := Reads.of_owns ho5
    rw [hl5]
    exact this
  clear ho5 hb5
  go_wp2_with fail
  have hlay := lay_l HN5.out HP.out (now + delay) A5 c5 (turnI bs fn) HX5.out HR.out (Nat.le_trans HL.out (by omega)) HSO.out.dropped
  rw [hl5] at hlay
  refine hlay.mono ?_
  rintro e w6 ⟨⟨v6, rfl⟩, r6⟩
  have HR6 := Lib.hid r6
  clear r6 hlay
  go_wp2
  refine bodyPost_end (v := .tuple #[]) (by simp [results, Try.results29, go_sem]) rfl ⟨⟨_, rfl⟩, ?_⟩
  refine NetR.from HK5.out (HR6.out.mono (fun l s h => .inr (.inr (.inr (.inl ⟨by rw [HFK.out], by rw [← HFN.out]; exact h⟩)))))
set_option maxRecDepth 100000 in
set_option maxHeartbeats 1000000 in
theorem give5 (h : NetAt w col nb gd delay room pv P fv F used s) (hp : P[i]? = some p) (now : Int) (A : Option Addr) (c : Nat) (bs : List Int) (hx : Reads w 1 (.slice A bs.length c) bs.length (u8s bs)) (hbt : BtsI bs) (hbl : bs.length ≤ 1000000) (hxo : ∀ g, (Value.slice A bs.length c).ownBlock = some g → 0 < bs.length → col g = 0)
    (hr : 0 ≤ room ∧ room ≤ 1000) (hl : p.l.length ≤ 10000) (hs : StOk s) (hF : F.length ≤ 1000000) (hu : used ≤ 1000000) (hd : 0 ≤ delay ∧ delay ≤ 64) (hn : 0 ≤ now ∧ now ≤ 1099511627776)
    (hf : (fateOf F used).kind < 1 ∨ 4 < (fateOf F used).kind) :
    Calls Try.prog 29 #[.pointer (some ⟨nb, 0, none⟩), .pointer (some ⟨p.b, 0, none⟩), .slice A bs.length c, .int .i64 now] w fun e w' => (∃ v, e = .returned v) ∧ NetR w w' col nb gd delay room pv P fv F (usedN F used) i p (GiveL room (fateOf F used) (now + delay) bs p.l s) := by
  have HKD := Lib.hid hf
  have H := Lib.hid h
  have hset : NetAt (w.setCell ⟨nb, 5, none⟩ (.int .i64 (s.sent + 1))) col nb gd delay room pv P fv F used s.send := h.set (used' := used) (s' := s.send) (i := 5) (u := .int .i64 (s.sent + 1)) rfl
  have hk1 : Keep (fun q => q = nb) w (w.setCell ⟨nb, 5, none⟩ (.int .i64 (s.sent + 1))) := (Keep.refl (fun q => q = nb) w).setCell (p := ⟨nb, 5, none⟩) (.inl rfl) _
  have hx1 : Reads (w.setCell ⟨nb, 5, none⟩ (.int .i64 (s.sent + 1))) 1 (.slice A bs.length c) bs.length (u8s bs) := hx.keep hk1 (fun g hg ps e => by have h1 := hxo g hg ps; have h2 := h.c1; rw [e] at h1; omega)
  have HS1 := Lib.hid hset
  have HK1 := Lib.hid hk1
  have HX1 := Lib.hid hx1
  have HP := Lib.hid hp
  have HXO := Lib.hid hxo
  have HSO := Lib.hid hs
  have HL := Lib.hid hl
  have HR := Lib.hid hr
  obtain ⟨n0, n1, n2, n3, n4, n5, n6, n7, n8, n9, n10⟩ := blk11 h.str
  have f5 := h.str.frozen 5
  have hs1 := hs.sent
  have HFT := Lib.hid (fate_any hset hF hu)
  obtain ⟨fk, hfk⟩ : ∃ k, k = (fateOf F used).kind := ⟨_, rfl⟩
  obtain ⟨fn, hfn⟩ : ∃ k, k = (fateOf F used).n := ⟨_, rfl⟩
  rw [← hfk, ← hfn] at HFT
  rw [← hfk] at hf
  have k1 : (fk == 1) = false := by simp; omega
  have k2 : (fk == 2) = false := by simp; omega
  have k3 : (fk == 3) = false := by simp; omega
  have k4 : (fk == 4) = false := by simp; omega
  clear h hset hk1 hx hx1 hp hxo hs hl hr hF hu hfk hfn hf
  go_enter Try.func29, Try.ntmps29
  go_wp2_with fail
  clear n0 n1 n2 n3 n4 n5 n6 n7 n8 n9 n10 f5
  generalize w.setCell ⟨nb, 5, none⟩ (.int .i64 (s.sent + 1)) = w1 at *
  refine HFT.out.mono ?_
  rintro e w2 ⟨rfl, hn2, hk2⟩
  have hb3 : Below w2.heap.size w2 (w2.alloc (.cells #[.int .i64 fk, .int .i64 fn] 39)) := (Below.refl _ w2).alloc (Nat.le_refl _) _
  have HN3 := Lib.hid (hn2.below hb3)
  have HK3 : Hid (Keep (fun q => col q ≠ 0 ∧ col q ≠ 5) w (w2.alloc (.cells #[.int .i64 fk, .int .i64 fn] 39))) :=
    ((HK1.out.trans hk2 (fun q _ e => e)).mono (fun q _ e => by rw [e, H.out.c1]; decide)).trans (Keep.none hb3) (fun _ _ h => h.elim)
  have HX3 : Hid (Reads (w2.alloc (.cells #[.int .i64 fk, .int .i64 fn] 39)) 1 (.slice A bs.length c) bs.length (u8s bs)) :=
    (HX1.out.keep hk2 (fun g hg ps e => by have h1 := HXO.out g hg ps; have h2 := H.out.c1; rw [e] at h1; omega)).below hb3
  clear hn2 hk2 hb3
  go_wp2_with fail
  have HLY := Lib.hid (lay_l HN3.out HP.out (now + delay) A c bs HX3.out HR.out (Nat.le_trans HL.out (by omega)) HSO.out.dropped)
  refine HLY.out.mono ?_
  rintro e w4 ⟨⟨v4, rfl⟩, r4⟩
  have HR4 := Lib.hid r4
  clear r4
  go_wp2
  refine bodyPost_end (v := .tuple #[]) (by simp [results, Try.results29, go_sem]) rfl ⟨⟨_, rfl⟩, ?_⟩
  exact NetR.from HK3.out (HR4.out.mono (fun l s h => .inr (.inr (.inr (.inr ⟨HKD.out, h⟩)))))
theorem give_any (h : NetAt w col nb gd delay room pv P fv F used s) (hp : P[i]? = some p) (now : Int) (A : Option Addr) (c : Nat) (bs : List Int) (hx : Reads w 1 (.slice A bs.length c) bs.length (u8s bs)) (hbt : BtsI bs) (hbl : bs.length ≤ 1000000) (hxo : ∀ g, (Value.slice A bs.length c).ownBlock = some g → 0 < bs.length → col g = 0)
    (hr : 0 ≤ room ∧ room ≤ 1000) (hl : p.l.length ≤ 10000) (hs : StOk s) (hF : F.length ≤ 1000000) (hu : used ≤ 1000000) (hd : 0 ≤ delay ∧ delay ≤ 64) (hn : 0 ≤ now ∧ now ≤ 1099511627776) (hsd : s.dropped ≤ 999999999) :
    Calls Try.prog 29 #[.pointer (some ⟨nb, 0, none⟩), .pointer (some ⟨p.b, 0, none⟩), .slice A bs.length c, .int .i64 now] w fun e w' => (∃ v, e = .returned v) ∧ NetR w w' col nb gd delay room pv P fv F (usedN F used) i p (GiveL room (fateOf F used) (now + delay) bs p.l s) := by
  rcases (by omega : (fateOf F used).kind = 1 ∨ (fateOf F used).kind = 2 ∨ (fateOf F used).kind = 3 ∨ (fateOf F used).kind = 4 ∨ ((fateOf F used).kind < 1 ∨ 4 < (fateOf F used).kind)) with g | g | g | g | g
  · exact give1 h hp now A c bs hx hbt hbl hxo hr hl hs hF hu hd hn g
  · exact give2 h hp now A c bs hx hbt hbl hxo hr hl hs hF hu hd hn g hsd
  · exact give3 h hp now A c bs hx hbt hbl hxo hr hl hs hF hu hd hn g
  · exact give4 h hp now A c bs hx hbt hbl hxo hr hl hs hF hu hd hn g
  · exact give5 h hp now A c bs hx hbt hbl hxo hr hl hs hF hu hd hn g
end
end
section
open Go.RowKit
set_option linter.unusedVariables false
set_option linter.unusedSimpArgs false

/-- the counts are at most n -/
structure StB (n : Int) (s : StN) : Prop where
  sent : 0 ≤ s.sent ∧ s.sent ≤ n
  lost : 0 ≤ s.lost ∧ s.lost ≤ n
  dropped : 0 ≤ s.dropped ∧ s.dropped ≤ n
  doubled : 0 ≤ s.doubled ∧ s.doubled ≤ n
  late : 0 ≤ s.late ∧ s.late ≤ n
  turned : 0 ≤ s.turned ∧ s.turned ≤ n
theorem StB.ok {n : Int} {s : StN} (h : StB n s) (hn : n ≤ 1000000000) : StOk s := by
  obtain ⟨a, b, c, d, e, f⟩ := h
  exact ⟨by omega, by omega, by omega, by omega, by omega, by omega⟩
theorem StB.mono {n m : Int} {s : StN} (h : StB n s) (hn : n ≤ m) : StB m s := by
  obtain ⟨a, b, c, d, e, f⟩ := h
  exact ⟨by omega, by omega, by omega, by omega, by omega, by omega⟩
theorem LayL.len {room due : Int} {bs : List Int} {l l' : List Msg} {s s' : StN} (h : LayL room due bs l s l' s') (hl : (l.length : Int) ≤ room) : (l'.length : Int) ≤ room := by
  rcases h with ⟨-, rfl, -⟩ | ⟨h1, -, m, rfl, -⟩
  · exact hl
  · have h2 : dueN l due ≤ l.length := dueN_le l due
    have h3 : (l.length : Int) < room := by
      unfold putE at h1
      split at h1
      · exact absurd h1 (by decide)
      · split at h1
        · exact absurd h1 (by decide)
        · omega
    unfold put1
    simp only [List.length_append, List.length_cons, List.length_take, List.length_drop]
    omega
theorem LayL.stb {room due n : Int} {bs : List Int} {l l' : List Msg} {s s' : StN} (h : LayL room due bs l s l' s') (hs : StB n s) : StB (n + 1) s' := by
  obtain ⟨a, b, c, d, e, f⟩ := hs
  rcases h with ⟨-, -, rfl⟩ | ⟨-, rfl, -⟩
  · unfold StN.drop
    exact ⟨by simp only; omega, by simp only; omega, by simp only; omega, by simp only; omega, by simp only; omega, by simp only; omega⟩
  · exact ⟨by omega, by omega, by omega, by omega, by omega, by omega⟩
theorem GiveL.len {room due : Int} {f : FD} {bs : List Int} {l l' : List Msg} {s s' : StN} (h : GiveL room f due bs l s l' s') (hl : (l.length : Int) ≤ room) : (l'.length : Int) ≤ room := by
  rcases h with ⟨-, rfl, -⟩ | ⟨-, l1, s1, h1, h2⟩ | ⟨-, h⟩ | ⟨-, h⟩ | ⟨-, h⟩
  · exact hl
  · exact h2.len (h1.len hl)
  · exact h.len hl
  · exact h.len hl
  · exact h.len hl
theorem StB.send {n : Int} {s : StN} (h : StB n s) : StB (n + 1) s.send ∧ StB (n + 1) s.send.lose ∧ StB (n + 1) s.send.dbl ∧ StB (n + 1) s.send.lat ∧ StB (n + 1) s.send.trn := by
  obtain ⟨a, b, c, d, e, f⟩ := h
  unfold StN.send StN.lose StN.dbl StN.lat StN.trn
  refine ⟨?_, ?_, ?_, ?_, ?_⟩ <;> exact ⟨by simp only; omega, by simp only; omega, by simp only; omega, by simp only; omega, by simp only; omega, by simp only; omega⟩
theorem GiveL.stb {room due n : Int} {f : FD} {bs : List Int} {l l' : List Msg} {s s' : StN} (h : GiveL room f due bs l s l' s') (hs : StB n s) : StB (n + 3) s' := by
  obtain ⟨a, b, c, d, e⟩ := hs.send
  rcases h with ⟨-, -, rfl⟩ | ⟨-, l1, s1, h1, h2⟩ | ⟨-, h⟩ | ⟨-, h⟩ | ⟨-, h⟩
  · exact b.mono (by omega)
  · exact (h2.stb (h1.stb c)).mono (by omega)
  · exact (h.stb d).mono (by omega)
  · exact (h.stb e).mono (by omega)
  · exact (h.stb a).mono (by omega)
/-- one message, to some, one behind the other -/
inductive SendL (room due : Int) (bs : List Int) (F : List FD) (L0 : List (List Msg)) (u0 : Nat) (s0 : StN) : List Nat → List (List Msg) → Nat → StN → Prop
  | nil : SendL room due bs F L0 u0 s0 [] L0 u0 s0
  | snoc {ms : List Nat} {L : List (List Msg)} {u : Nat} {s : StN} {r : Nat} {l l' : List Msg} {s' : StN} : SendL room due bs F L0 u0 s0 ms L u s → L[r]? = some l → GiveL room (fateOf F u) due bs l s l' s' → SendL room due bs F L0 u0 s0 (ms ++ [r]) (L.set r l') (usedN F u) s'
theorem usedN_le (F : List FD) (u : Nat) : usedN F u ≤ u + 1 := by unfold usedN; split <;> omega
theorem SendL.inv {room due n : Int} {bs : List Int} {F : List FD} {L0 L : List (List Msg)} {u0 u : Nat} {s0 s : StN} {ms : List Nat} (h : SendL room due bs F L0 u0 s0 ms L u s) (hl : ∀ l ∈ L0, (l.length : Int) ≤ room) (hs : StB n s0) :
    (∀ l ∈ L, (l.length : Int) ≤ room) ∧ StB (n + 3 * ms.length) s ∧ u ≤ u0 + ms.length ∧ L.length = L0.length := by
  induction h with
  | nil => exact ⟨hl, hs.mono (by simp), by simp, rfl⟩
  | @snoc ms L u s r l l' s' h1 h2 h3 ih =>
    obtain ⟨i1, i2, i3, i4⟩ := ih
    refine ⟨fun x hx => ?_, (h3.stb i2).mono (by simp only [List.length_append, List.length_cons, List.length_nil]; omega), ?_, by rw [List.length_set, i4]⟩
    · rcases List.mem_or_eq_of_mem_set hx with h | rfl
      · exact i1 x h
      · exact h3.len (i1 l (List.mem_of_getElem? h2))
    · have := usedN_le F u
      simp only [List.length_append, List.length_cons, List.length_nil]
      omega
theorem SendL.size {room due : Int} {bs : List Int} {F : List FD} {L0 L : List (List Msg)} {u0 u : Nat} {s0 s : StN} {ms : List Nat} (h : SendL room due bs F L0 u0 s0 ms L u s) : L.length = L0.length := by
  induction h with
  | nil => rfl
  | @snoc ms L u s r l l' s' h1 h2 h3 ih => rw [List.length_set, ih]
/-- the members as places -/
def memN (l : List One) (layer now : Int) : Nat → List Nat
  | 0 => []
  | k + 1 => if 0 ≤ layer ∧ layer ≤ (l.getD k one0).at now then memN l layer now k ++ [k] else memN l layer now k
theorem mem_memN (l : List One) (layer now : Int) : ∀ k, mem l layer now k = (memN l layer now k).map (fun r : Nat => (r : Int))
  | 0 => rfl
  | k + 1 => by
    unfold mem memN
    rw [mem_memN l layer now k]
    split
    · rw [List.map_append]; rfl
    · rfl
theorem memN_lt (l : List One) (layer now : Int) : ∀ k r, r ∈ memN l layer now k → r < k
  | 0, r, h => by cases h
  | k + 1, r, h => by
    unfold memN at h
    split at h
    · rcases List.mem_append.1 h with h | h
      · have := memN_lt l layer now k r h; omega
      · simp at h; omega
    · have := memN_lt l layer now k r h; omega
theorem memN_len (l : List One) (layer now : Int) (k : Nat) : (memN l layer now k).length ≤ k := by
  have h := mem_len l layer now k
  rw [mem_memN, List.length_map] at h
  exact h
/-- what Send leaves -/
structure NetS (w w' : World) (col : Nat → Nat) (nb : Nat) (gd : GD) (delay room : Int) (pv : Value) (P : List PD) (fv : Value) (F : List FD) (used : Nat) (s : StN) (due : Int) (bs : List Int) (ms : List Nat) : Prop where
  ex : ∃ col' P' used' s', NetAt w' col' nb gd delay room pv P' fv F used' s' ∧ (∀ x, x < w.heap.size → col' x = col x) ∧ SendL room due bs F (P.map (·.l)) used s ms (P'.map (·.l)) used' s'
  kp : Keep (fun q => col q ≠ 0 ∧ col q ≠ 5) w w'
section
variable {w : World} {col : Nat → Nat} {nb : Nat} {gd : GD} {delay room : Int} {pv : Value} {P : List PD} {fv : Value} {F : List FD} {used : Nat} {s : StN}
theorem map_set_l (P : List PD) (r : Nat) (b : Nat) (v : Value) (l : List Msg) : (P.set r ⟨b, v, l⟩).map (·.l) = (P.map (·.l)).set r l := by rw [List.map_set]
theorem NetS.snoc {w1 w2 : World} {due : Int} {bs : List Int} {ms : List Nat} {r : Nat} (h : NetAt w col nb gd delay room pv P fv F used s) {col1 : Nat → Nat} {P1 : List PD} {u1 : Nat} {s1 : StN} {p : PD} (hc : ∀ x, x < w.heap.size → col1 x = col x) (hk : Keep (fun q => col q ≠ 0 ∧ col q ≠ 5) w w1)
    (hq : SendL room due bs F (P.map (·.l)) used s ms (P1.map (·.l)) u1 s1) (hp : P1[r]? = some p) (hr : NetR w1 w2 col1 nb gd delay room pv P1 fv F (usedN F u1) r p (GiveL room (fateOf F u1) due bs p.l s1)) : NetS w w2 col nb gd delay room pv P fv F used s due bs (ms ++ [r]) := by
  obtain ⟨⟨col', v', l', s', h1, h2, h3⟩, h4⟩ := hr
  refine ⟨⟨col', _, _, s', h1, fun x hx => (h2 x (Nat.lt_of_lt_of_le hx hk.size)).trans (hc x hx), ?_⟩, hk.trans h4 (fun q hq y => by rw [hc q hq] at y; exact y)⟩
  rw [map_set_l]
  exact hq.snoc (by rw [List.getElem?_map, hp]; rfl) h3
theorem NetS.from {w0 w2 : World} {due : Int} {bs : List Int} {ms : List Nat} (hk : Keep (fun q => col q ≠ 0 ∧ col q ≠ 5) w0 w) (h : NetS w w2 col nb gd delay room pv P fv F used s due bs ms) : NetS w0 w2 col nb gd delay room pv P fv F used s due bs ms := by
  obtain ⟨⟨col', P', u', s', h1, h2, h3⟩, h4⟩ := h
  exact ⟨⟨col', P', u', s', h1, fun x hx => h2 x (Nat.lt_of_lt_of_le hx hk.size), h3⟩, hk.trans h4 (fun q _ y => y)⟩
set_option maxRecDepth 100000 in
set_option maxHeartbeats 1000000 in
theorem send_yes (h : NetAt w col nb gd delay room pv P fv F used s) (layer now : Int) (hgl : gd.l.length ≤ 64) (hP : gd.l.length ≤ P.length ∧ P.length ≤ 1000) (hly : 0 ≤ layer ∧ layer ≤ 7)
    (A : Option Addr) (c : Nat) (bs : List Int) (hb : bs.length ≤ 320) (hbt : BtsI bs) (hx : Reads w 1 (.slice A bs.length c) bs.length (u8s bs)) (hxo : ∀ g, (Value.slice A bs.length c).ownBlock = some g → 0 < bs.length → col g = 0 ∧ g < w.heap.size)
    (hr : 0 ≤ room ∧ room ≤ 1000) (hl : ∀ p ∈ P, (p.l.length : Int) ≤ room) (hs : StB 100000 s) (hF : F.length ≤ 100000) (hu : used ≤ 100000) (hd : 0 ≤ delay ∧ delay ≤ 64) (hn : 0 ≤ now ∧ now ≤ 1099511627776) :
    Calls Try.prog 10 #[.pointer (some ⟨nb, 0, none⟩), .int .i64 layer, .slice A bs.length c, .int .i64 now] w fun e w' => e = .returned (.tuple #[.int .i64 (memN gd.l layer now gd.l.length).length, .int .i64 0]) ∧ NetS w w' col nb gd delay room pv P fv F used s (now + delay) bs (memN gd.l layer now gd.l.length) := by
  have hmy := may_any A bs.length c now w
  rw [show mayB bs.length now = true from decide_eq_true ⟨hn.1, hn.2, hb⟩] at hmy
  have HMY := Lib.hid hmy
  have hme := members_any gd.b gd.g gd.c gd.l gd.j gd.lv layer now w h.grp hgl
  have hml := memN_len gd.l layer now gd.l.length
  have hmlt := memN_lt gd.l layer now gd.l.length
  rw [mem_memN] at hme
  obtain ⟨ms, hms⟩ : ∃ ms, ms = memN gd.l layer now gd.l.length := ⟨_, rfl⟩
  rw [← hms] at hme hml hmlt ⊢
  rw [List.length_map, List.map_map] at hme
  have HME := Lib.hid hme
  have H := Lib.hid h
  have HX := Lib.hid hx
  have HXO := Lib.hid hxo
  have HMT : Hid (∀ r ∈ ms, r < P.length) := fun r hr => Nat.lt_of_lt_of_le (hmlt r hr) hP.1
  have HML : Hid (ms.length ≤ 64) := Nat.le_trans hml hgl
  have HG : Hid (∀ (wb : World), Below w.heap.size w wb → ∀ (w1 : World) (col1 : Nat → Nat) (P1 : List PD) (u1 : Nat) (s1 : StN) (k : Nat) (r : Nat) (p : PD), NetAt w1 col1 nb gd delay room pv P1 fv F u1 s1 → (∀ x, x < wb.heap.size → col1 x = col x) → Keep (fun q => col q ≠ 0 ∧ col q ≠ 5) wb w1 → SendL room (now + delay) bs F (P.map (·.l)) used s (ms.take k) (P1.map (·.l)) u1 s1 → ms[k]? = some r → P1[r]? = some p →
      Calls Try.prog 29 #[.pointer (some ⟨nb, 0, none⟩), .pointer (some ⟨p.b, 0, none⟩), .slice A bs.length c, .int .i64 now] w1 fun e w' => (∃ v, e = .returned v) ∧ NetS wb w' col nb gd delay room pv P fv F used s (now + delay) bs (ms.take (k + 1))) := fun wb hbw w1 col1 P1 u1 s1 k r p h1 hc hk hq hm hp => by
    obtain ⟨i1, i2, i3, i4⟩ := hq.inv (n := 100000) (fun l hl' => by obtain ⟨q, hq1, rfl⟩ := List.mem_map.1 hl'; exact hl q hq1) hs
    have hkl : (ms.take k).length ≤ 64 := by rw [List.length_take]; omega
    have hx1 : Reads w1 1 (.slice A bs.length c) bs.length (u8s bs) := (hx.below hbw).keep hk (fun g hg ps e => e.1 (hxo g hg ps).1)
    have hpl : (p.l.length : Int) ≤ room := i1 p.l (List.mem_map.2 ⟨p, List.mem_of_getElem? hp, rfl⟩)
    have hsb : StB 200000 s1 := i2.mono (by omega)
    refine (give_any h1 hp now A c bs hx1 hbt (by omega) (fun g hg ps => ?_) hr (by omega) (hsb.ok (by omega)) (by omega) (by omega) hd hn (by have := hsb.dropped; omega)).mono ?_
    · obtain ⟨g1, g2⟩ := hxo g hg ps
      rw [hc g (by have := hbw.size; omega)]
      exact g1
    · rintro e w' ⟨hv, r'⟩
      refine ⟨hv, ?_⟩
      have ht : ms.take (k + 1) = ms.take k ++ [r] := by rw [List.take_add_one, hm]; rfl
      rw [ht]
      exact NetS.snoc (h.below hbw) hc hk hq hp r'
  have HCP : Hid (P.length ≤ 1000) := hP.2
  have i0 : ¬ layer < 0 := by omega
  have i7 : ¬ 8 ≤ layer := by omega
  clear h hgl hP hly hb hbt hx hxo hr hl hs hF hu hd hn hmy hme hml hmlt hms
  go_enter Try.func10, Try.ntmps10
  go_wp2_with fail
  refine HMY.out.mono ?_
  rintro e w0 ⟨rfl, rfl⟩
  obtain ⟨n0, n1, n2, -⟩ := blk11 H.out.str
  go_wp2_with fail
  refine HME.out.mono ?_
  rintro e w1 ⟨A1, c1, rfl, ho1, hb1⟩
  have HO1 := Lib.hid ho1
  have HB1 := Lib.hid hb1
  have H1 := Lib.hid (H.out.below hb1)
  clear n0 n1 n2 ho1 hb1
  obtain ⟨n0, n1, n2, -⟩ := blk11 H1.out.str
  go_wp2_with fail
  have HGW := Lib.hid (HG.out w1 HB1.out)
  clear n0 n1 n2
  go_loopw [12, 34] (fun _ i wr => ∃ k : Nat, k ≤ ms.length ∧ i = .int .i64 k ∧ Hid (NetS w1 wr col nb gd delay room pv P fv F used s (now + delay) bs (ms.take k))) (fun _ i _ => ms.length - (intOf i).toNat)
  case atStart => exact ⟨0, by omega, rfl, ⟨⟨col, P, used, s, H1.out, fun _ _ => rfl, SendL.nil⟩, Keep.refl _ _⟩⟩
  case round =>
    obtain ⟨k, hk, rfl, HN⟩ := hrel
    by_cases hlt : k < ms.length
    · obtain ⟨r, hr⟩ : ∃ r, ms[k]? = some r := ⟨_, List.getElem?_eq_getElem hlt⟩
      obtain ⟨⟨col1, P1, u1, s1, hn1, hc1, hq1⟩, hk1⟩ := HN.out
      have hown := ownsRow_keep HO1.out hk1 (fun g hg e => e.1 (H.out.top g (HO1.out.lt g hg).1))
      obtain ⟨mb, mo, mc, hme, hmc⟩ := (Reads.of_owns hown).at k (.int .i64 (r : Int)) (by rw [List.getElem?_map, hr]; rfl)
      cases hme
      have hlen : P1.length = P.length := by have := hq1.size; simpa using this
      have hrl : r < P1.length := by rw [hlen]; exact HMT.out r (List.mem_of_getElem? hr)
      obtain ⟨p, hp⟩ : ∃ p, P1[r]? = some p := ⟨_, List.getElem?_eq_getElem hrl⟩
      obtain ⟨pA, pc, rfl⟩ := ownsRow_slice hn1.row
      obtain ⟨b, o, c', he, hcc⟩ := (Reads.of_owns hn1.row).at r (pipeC p) (by rw [List.getElem?_map, hp]; rfl)
      cases he
      replace hcc : wr.cell? ⟨b, o + r, none⟩ = some (.pointer (some ⟨p.b, 0, none⟩)) := hcc
      have hmc2 : wr.cell? ⟨mb, mo + k, none⟩ = some (.int .i64 (r : Int)) := hmc
      have HGV := Lib.hid (HGW.out wr col1 P1 u1 s1 k r p hn1 hc1 hk1 hq1 hr hp)
      have HPL1 : Hid (P1.length ≤ 1000) := by show _ ≤ _; rw [hlen]; exact HCP.out
      obtain ⟨n0, n1, n2, -⟩ := blk11 hn1.str
      have j1 : (0 : Int) ≤ (r : Int) := by omega
      have j2 : (r : Int) < (P1.length : Int) := by omega
      have j3 : (0 : Int) ≤ (k : Int) := by omega
      have j4 : (k : Int) < (ms.length : Int) := by omega
      have j5 := HML.out
      have j6 := HPL1.out
      clear hn1 hc1 hq1 hk1 hown hmc hp hr hrl hlen
      go_wp2_with fail
      refine HGV.out.mono ?_
      rintro e w4 ⟨⟨v4, rfl⟩, r4⟩
      have HR4 := Lib.hid r4
      clear r4
      go_wp2
      go_roundw
      case rel => exact ⟨k + 1, by omega, by go_num, HR4.out⟩
      case measure => simp [intOf]; omega
    · obtain rfl : k = ms.length := by omega
      have HF := Lib.hid HN.out
      rw [List.take_length] at HF
      clear HN
      go_wp2
      exact bodyPost_ret (v := .tuple #[.int .i64 ms.length, .int .i64 0]) (by simp [results, Try.results10, go_sem]) rfl ⟨rfl, NetS.from (Keep.ofBelowAll HB1.out) HF.out⟩
end
end
end Go.Proofs.Ytlodiibmofeikaa
