/- simnet: may, fate, lay. -/
import Derived.Test.YtlodiibmofeikaaNetNew
namespace Go.Proofs.Ytlodiibmofeikaa
open Go.RowKit
set_option linter.unusedVariables false
set_option linter.unusedSimpArgs false

def mayB (n : Nat) (now : Int) : Bool := decide (0 ≤ now ∧ now ≤ 1099511627776 ∧ n ≤ 320)
theorem may_any (A : Option Addr) (n c : Nat) (now : Int) (w : World) :
    Calls Try.prog 27 #[.slice A n c, .int .i64 now] w fun e w' => e = .returned (.bool (mayB n now)) ∧ w = w' := by
  rcases (by omega : now < 0 ∨ (0 ≤ now ∧ 1099511627776 < now) ∨ (0 ≤ now ∧ now ≤ 1099511627776 ∧ n ≤ 320) ∨ (0 ≤ now ∧ now ≤ 1099511627776 ∧ 320 < n)) with g | ⟨g, g'⟩ | ⟨g, g', g2⟩ | ⟨g, g', g2⟩
  all_goals
    first
      | (have hh : mayB n now = true := decide_eq_true ⟨g, g', g2⟩; rw [hh])
      | (have hh : mayB n now = false := decide_eq_false (by omega); rw [hh])
    clear hh
    go_enter Try.func27, Try.ntmps27
    go_wp2
    go_ret
    exact ⟨by first | rfl | (simp; done) | (simp; omega), rfl⟩
section
variable {w : World} {col : Nat → Nat} {nb : Nat} {gd : GD} {delay room : Int} {pv : Value} {P : List PD} {fv : Value} {F : List FD} {used : Nat} {s : StN}
def StN.drop (s : StN) : StN := { s with dropped := s.dropped + 1 }
/-- what laying a message into the pipe i leaves -/
structure LaidP (w w' : World) (col : Nat → Nat) (nb : Nat) (gd : GD) (delay room : Int) (pv : Value) (P : List PD) (fv : Value) (F : List FD) (used : Nat) (s : StN) (i : Nat) (due : Int) (bs : List Int) : Prop where
  ex : ∃ p col' p' s', P[i]? = some p ∧ NetAt w' col' nb gd delay room pv (P.set i p') fv F used s' ∧ (∀ x, col' x ≠ 0 → col x ≠ 0 ∨ w.heap.size ≤ x) ∧
    ((putE p.l room due bs.length ≠ 0 ∧ p'.l = p.l ∧ s' = s.drop) ∨ (putE p.l room due bs.length = 0 ∧ s' = s ∧ ∃ m, p'.l = put1 p.l (dueN p.l due) m ∧ m.due = due ∧ m.bs = bs))
  kp : Keep (fun q => col q ≠ 0) w w'
set_option maxRecDepth 100000 in
theorem lay_any (h : NetAt w col nb gd delay room pv P fv F used s) (i : Nat) (p : PD) (hp : P[i]? = some p) (due : Int) (A : Option Addr) (c : Nat) (bs : List Int) (hx : Reads w 1 (.slice A bs.length c) bs.length (u8s bs)) (hr : 0 ≤ room ∧ room ≤ 1000) (hl : p.l.length ≤ 100000) (hs : 0 ≤ s.dropped ∧ s.dropped ≤ 1000000000) :
    Calls Try.prog 43 #[.pointer (some ⟨nb, 0, none⟩), .pointer (some ⟨p.b, 0, none⟩), .slice A bs.length c, .int .i64 due] w fun e w' => (∃ v, e = .returned v) ∧ LaidP w w' col nb gd delay room pv P fv F used s i due bs := by
  have H := Lib.hid h
  have HP := Lib.hid hp
  have hput := put_any p.b p.v p.l room due A bs.length c bs w (h.pipes i p hp) hl hr hx rfl
  have hgen : ∀ w2, PutR NoR w w2 (fun x => col x = 6 + i) p.b p.l room due bs.length bs → Keep (fun q => col q ≠ 0) w w2 ∧ ∃ col' p', NetAt w2 col' nb gd delay room pv (P.set i p') fv F used s ∧ (∀ x, col' x ≠ 0 → col x ≠ 0 ∨ w.heap.size ≤ x) ∧
      ((putE p.l room due bs.length ≠ 0 ∧ p'.l = p.l) ∨ (putE p.l room due bs.length = 0 ∧ ∃ m, p'.l = put1 p.l (dueN p.l due) m ∧ m.due = due ∧ m.bs = bs)) := fun w2 r => by
    obtain ⟨⟨v', l', h1, h2⟩, hk⟩ := r
    refine ⟨hk.mono (fun q _ e => by omega), _, ⟨p.b, v', l'⟩, h.pipe hp hk h1, fun x hx => ?_, h2⟩
    unfold setc at hx
    split at hx
    · exact .inr (by omega)
    · exact .inl hx
  have HG := Lib.hid hgen
  clear hgen
  by_cases he : putE p.l room due bs.length = 0
  · rw [he] at hput
    have HPU := Lib.hid hput
    have HE := Lib.hid he
    clear h hp hx hput he
    go_enter Try.func43, Try.ntmps43
    go_wp2_with fail
    refine HPU.out.mono ?_
    rintro e w2 ⟨rfl, r2⟩
    have HR := Lib.hid r2
    clear r2
    go_wp2
    refine bodyPost_end (v := .tuple #[]) (by simp [results, Try.results43, go_sem]) rfl ⟨⟨_, rfl⟩, ?_⟩
    obtain ⟨hk, col', p', h1, h2, h3⟩ := HG.out w2 HR.out
    rcases h3 with ⟨h3, -⟩ | ⟨h3, h4⟩
    · exact absurd HE.out h3
    · exact ⟨⟨p, col', p', s, HP.out, h1, h2, .inr ⟨HE.out, rfl, h4⟩⟩, hk⟩
  · have hcs : putE p.l room due bs.length = 11 ∨ putE p.l room due bs.length = 15 := by
      unfold putE at he ⊢
      split
      · exact .inl rfl
      · split
        · exact .inr rfl
        · rename_i g1 g2
          rw [if_neg g1, if_neg g2] at he
          exact absurd rfl he
    have HE := Lib.hid he
    clear he
    rcases hcs with e | e
    all_goals
      rw [e] at hput
      have HPU := Lib.hid hput
      clear h hp hx hput e
      go_enter Try.func43, Try.ntmps43
      go_wp2_with fail
      refine HPU.out.mono ?_
      rintro e w2 ⟨rfl, r2⟩
      obtain ⟨hk, col', p', h1, h2, h3⟩ := HG.out w2 r2
      have HK := Lib.hid hk
      have HN := Lib.hid h1
      have H2 := Lib.hid h2
      have H3 := Lib.hid h3
      obtain ⟨n0, n1, n2, n3, n4, n5, n6, n7, n8, n9, n10⟩ := blk11 h1.str
      have f7 := h1.str.frozen 7
      clear r2 hk h1 h2 h3
      go_wp2
      refine bodyPost_end (v := .tuple #[]) (by simp [results, Try.results43, go_sem]) rfl ⟨⟨_, rfl⟩, ?_⟩
      have hset := HN.out.set (s' := s.drop) (used' := used) (i := 7) (u := .int .i64 (s.dropped + 1)) rfl
      have hk2 : Keep (fun q => col q ≠ 0) w (w2.setCell ⟨nb, 7, none⟩ (.int .i64 (s.dropped + 1))) := HK.out.setCell (p := ⟨nb, 7, none⟩) (.inl (by rw [H.out.c1]; decide)) _
      rcases H3.out with ⟨h3, h4⟩ | ⟨h3, -⟩
      · exact ⟨⟨p, col', p', s.drop, HP.out, hset, H2.out, .inl ⟨h3, h4, rfl⟩⟩, hk2⟩
      · exact absurd h3 HE.out
def fateOf (F : List FD) (k : Nat) : FD := (F[k]?).getD ⟨0, 0⟩
def usedN (F : List FD) (k : Nat) : Nat := if k < F.length then k + 1 else k
set_option maxRecDepth 100000 in
theorem fate_any (h : NetAt w col nb gd delay room pv P fv F used s) (hF : F.length ≤ 1000000) (hu : used ≤ 1000000) :
    Calls Try.prog 42 #[.pointer (some ⟨nb, 0, none⟩)] w fun e w' => e = .returned (.agg #[.int .i64 (fateOf F used).kind, .int .i64 (fateOf F used).n]) ∧ NetAt w' col nb gd delay room pv P fv F (usedN F used) s ∧ Keep (fun q => q = nb) w w' := by
  obtain ⟨fA, fc, rfl⟩ := ownsRow_slice h.fates
  obtain ⟨k, hk⟩ : ∃ k, k = F.length := ⟨_, rfl⟩
  have H := Lib.hid h
  have hnlt := h.str.lt
  by_cases hlt : used < F.length
  · obtain ⟨n0, n1, n2, n3, n4, -⟩ := blk11 h.str
    have f4 := h.str.frozen 4
    obtain ⟨o, ho⟩ : ∃ o, F[used]? = some o := ⟨_, List.getElem?_eq_getElem hlt⟩
    have hff : fateOf F used = o := by unfold fateOf; rw [ho]; rfl
    have huu : usedN F used = used + 1 := if_pos hlt
    rw [hff, huu]
    obtain ⟨g, p, c', he, hc⟩ := Reads.elem (Reads.of_owns h.fates) fateCells_len (by omega) ho
    have o0 := hc 0 _ rfl
    have o1 := hc 1 _ rfl
    have hg5 := h.c5
    cases he
    have hgl : g ≠ nb := fun e => by have h1 := h.c5 g rfl; have h2 := h.c1; rw [e] at h1; omega
    have i1 : ¬ ((F.length : Int) ≤ (used : Int)) := by omega
    have i2 : (used : Int) < (F.length : Int) := by omega
    have i3 : (0 : Int) ≤ (used : Int) := by omega
    clear h hff huu hlt hk
    go_enter Try.func42, Try.ntmps42
    go_wp2_with fail
    go_quiet (fail)
    have HNB : Hid (Below w.heap.size w ((w.alloc (.cells #[.int .i64 0, .int .i64 0] 39)).drewN nq)) := below_drewN ((Below.refl _ w).alloc (Nat.le_refl _) _) nq
    have HBX0 : Hid (Blk ((w.alloc (.cells #[.int .i64 0, .int .i64 0] 39)).drewN nq) w.heap.size #[.int .i64 0, .int .i64 0] 39) := (Blk.new w _ _).drewN nq
    have HNZ := Lib.hid (H.out.below HNB.out)
    clear n0 n1 n2 n3 n4 f4
    generalize (w.alloc (.cells #[.int .i64 0, .int .i64 0] 39)).drewN nq = wz at *
    obtain ⟨n0, n1, n2, n3, n4, -⟩ := blk11 HNZ.out.str
    have f4 := HNZ.out.str.frozen 4
    go_wp2_with fail
    have HN5 : Hid (NetAt (wz.setCell ⟨nb, 4, none⟩ (.int .i64 ((used : Int) + 1))) col nb gd delay room pv P (.slice (some ⟨g, p, none⟩) F.length fc) F (used + 1) s) := HNZ.out.set (used' := used + 1) (s' := s) (i := 4) (u := .int .i64 ((used : Int) + 1)) rfl
    have hk5 : Keep (fun q => q = nb) wz (wz.setCell ⟨nb, 4, none⟩ (.int .i64 ((used : Int) + 1))) := (Keep.refl (fun q => q = nb) wz).setCell (p := ⟨nb, 4, none⟩) (.inl rfl) _
    have HK5 := Lib.hid hk5
    have HBX := Lib.hid (HBX0.out.keep hk5 (fun e => by omega))
    clear n0 n1 n2 n3 n4 f4 hk5 o0 o1
    generalize wz.setCell ⟨nb, 4, none⟩ (.int .i64 ((used : Int) + 1)) = w5 at *
    obtain ⟨n0, n1, n2, n3, n4, -⟩ := blk11 HN5.out.str
    replace n4 : w5.cell? ⟨nb, 4, none⟩ = some (.int .i64 ((used : Int) + 1)) := n4
    obtain ⟨g', p', c', he, hc⟩ := Reads.elem (Reads.of_owns HN5.out.fates) fateCells_len (by omega) ho
    cases he
    have o0 := hc 0 _ rfl
    have o1 := hc 1 _ rfl
    replace o0 : w5.cell? ⟨g, p + used * 2, none⟩ = some (.int .i64 o.kind) := o0
    replace o1 : w5.cell? ⟨g, p + used * 2 + 1, none⟩ = some (.int .i64 o.n) := o1
    obtain ⟨b0, b1⟩ := blk2 HBX.out
    have f0 := HBX.out.frozen 0
    have f1 := HBX.out.frozen 1
    have hk : Keep (fun q => q = w.heap.size) w5 ((w5.setCell ⟨w.heap.size, 0, none⟩ (.int .i64 o.kind)).setCell ⟨w.heap.size, 1, none⟩ (.int .i64 o.n)) := ((Keep.refl (fun q => q = w.heap.size) w5).setCell (p := ⟨w.heap.size, 0, none⟩) (.inl rfl) _).setCell (p := ⟨w.heap.size, 1, none⟩) (.inl rfl) _
    have hB : Blk ((w5.setCell ⟨w.heap.size, 0, none⟩ (.int .i64 o.kind)).setCell ⟨w.heap.size, 1, none⟩ (.int .i64 o.n)) w.heap.size #[.int .i64 o.kind, .int .i64 o.n] 39 := (Blk.set' (HBX.out.set' (cs' := #[.int .i64 o.kind, .int .i64 0]) rfl) rfl)
    obtain ⟨r0, r1⟩ := blk2 hB
    have HK := Lib.hid hk
    have hgw : g < w.heap.size := H.out.lt (by rw [hg5 g rfl]; decide)
    have key : ∀ {q : Addr} {v : Value}, q.block < w.heap.size → w5.cell? q = some v → ((w5.setCell ⟨w.heap.size, 0, none⟩ (.int .i64 o.kind)).setCell ⟨w.heap.size, 1, none⟩ (.int .i64 o.n)).drew.cell? q = some v := fun {q v} hq d => (hk.drew.cell (p := q) (World.block_lt_of_cell? _ _ d) (by omega)).trans d
    have hS9 : ((w5.setCell ⟨w.heap.size, 0, none⟩ (.int .i64 o.kind)).setCell ⟨w.heap.size, 1, none⟩ (.int .i64 o.n)).drew.cell? ⟨nb, 3, none⟩ = some (.slice (some ⟨g, p, none⟩) F.length fc) ∧ ((w5.setCell ⟨w.heap.size, 0, none⟩ (.int .i64 o.kind)).setCell ⟨w.heap.size, 1, none⟩ (.int .i64 o.n)).drew.cell? ⟨nb, 4, none⟩ = some (.int .i64 ((used : Int) + 1)) ∧ ((w5.setCell ⟨w.heap.size, 0, none⟩ (.int .i64 o.kind)).setCell ⟨w.heap.size, 1, none⟩ (.int .i64 o.n)).drew.cell? ⟨g, p + used * 2, none⟩ = some (.int .i64 o.kind) ∧ ((w5.setCell ⟨w.heap.size, 0, none⟩ (.int .i64 o.kind)).setCell ⟨w.heap.size, 1, none⟩ (.int .i64 o.n)).drew.cell? ⟨g, p + used * 2 + 1, none⟩ = some (.int .i64 o.n) :=
      ⟨key hnlt n3, key hnlt n4, key hgw o0, key hgw o1⟩
    have HS9 := Lib.hid hS9
    clear hS9 key
    have i4 : IntKind.i64.wrap (used : Int) = (used : Int) := IntWalk.i64_in _ (by omega)
    have i5 : wrap64 (used : Int) = (used : Int) := IntWalk.wrap64_in _ (by omega)
    clear hk hB hc
    go_region_held3 (fun w' => w'.cell? ⟨nb, 3, none⟩ = some (.slice (some ⟨g, p, none⟩) F.length fc) ∧ w'.cell? ⟨nb, 4, none⟩ = some (.int .i64 ((used : Int) + 1)) ∧ w'.cell? ⟨g, p + used * 2, none⟩ = some (.int .i64 o.kind) ∧ w'.cell? ⟨g, p + used * 2 + 1, none⟩ = some (.int .i64 o.n)) (first | exact ⟨n3, n4, o0, o1⟩ | exact HS9.out) (fail)
    clear i4 i5
    go_wp2
    refine bodyPost_ret (v := .agg #[.int .i64 o.kind, .int .i64 o.n]) (by simp [results, Try.results42, go_sem, r0, r1]) rfl ⟨rfl, ?_, ?_⟩
    · exact HN5.out.keep HK.out.drew (fun x hx e => by have := H.out.lt hx; omega)
    · exact ((Keep.ofBelowAll HNB.out : Keep (fun q => q = nb) w wz).trans HK5.out (fun q _ e => e)).trans HK.out.drew (fun q hq e => by omega)
  · obtain ⟨n0, n1, n2, n3, n4, -⟩ := blk11 h.str
    have hb0 : ∀ o, Below w.heap.size w (w.alloc o) := fun o => (Below.refl _ w).alloc (Nat.le_refl _) o
    have HB0 := Lib.hid hb0
    have hff : fateOf F used = ⟨0, 0⟩ := by unfold fateOf; rw [List.getElem?_eq_none (by omega)]; rfl
    have huu : usedN F used = used := if_neg hlt
    rw [hff, huu]
    have i1 : ((F.length : Int) ≤ (used : Int)) := by omega
    clear h hb0 hff huu hlt hk
    go_enter Try.func42, Try.ntmps42
    go_wp2_with fail
    go_quiet (fail)
    have HNB : Hid (Below w.heap.size w ((w.alloc (.cells #[.int .i64 0, .int .i64 0] 39)).drewN nq)) := below_drewN (HB0.out _) nq
    have HBX : Hid (Blk ((w.alloc (.cells #[.int .i64 0, .int .i64 0] 39)).drewN nq) w.heap.size #[.int .i64 0, .int .i64 0] 39) := (Blk.new w _ _).drewN nq
    clear n0 n1 n2 n3 n4
    generalize (w.alloc (.cells #[.int .i64 0, .int .i64 0] 39)).drewN nq = wz at *
    obtain ⟨b0, b1⟩ := blk2 HBX.out
    have f0 := HBX.out.frozen 0
    have f1 := HBX.out.frozen 1
    have hk : Keep (fun q => q = w.heap.size) wz ((wz.setCell ⟨w.heap.size, 0, none⟩ (.int .i64 0)).setCell ⟨w.heap.size, 1, none⟩ (.int .i64 0)) := ((Keep.refl (fun q => q = w.heap.size) wz).setCell (p := ⟨w.heap.size, 0, none⟩) (.inl rfl) _).setCell (p := ⟨w.heap.size, 1, none⟩) (.inl rfl) _
    have hB : Blk ((wz.setCell ⟨w.heap.size, 0, none⟩ (.int .i64 0)).setCell ⟨w.heap.size, 1, none⟩ (.int .i64 0)) w.heap.size #[.int .i64 0, .int .i64 0] 39 := (Blk.set' (HBX.out.set' (cs' := #[.int .i64 0, .int .i64 0]) rfl) rfl)
    obtain ⟨r0, r1⟩ := blk2 hB
    have HK := Lib.hid hk
    clear hk hB
    go_wp2
    refine bodyPost_ret (v := .agg #[.int .i64 0, .int .i64 0]) (by simp [results, Try.results42, go_sem, r0, r1]) rfl ⟨rfl, ?_, ?_⟩
    · exact (H.out.below HNB.out).keep HK.out (fun x hx e => by have := H.out.lt hx; omega)
    · exact (Keep.ofBelowAll HNB.out : Keep (fun q => q = nb) w wz).trans HK.out (fun q hq e => by omega)
end
end Go.Proofs.Ytlodiibmofeikaa
