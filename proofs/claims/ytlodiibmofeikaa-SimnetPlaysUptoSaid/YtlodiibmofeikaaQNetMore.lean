/- simnet: Take of none, TakeUp, Up, Waiting of none, Send refused. -/
import Derived.Test.YtlodiibmofeikaaQDD
import Derived.Test.YtlodiibmofeikaaQNetTake
import Derived.Test.YtlodiibmofeikaaQNetLaw
namespace Go.Proofs.Ytlodiibmofeikaa
open Go.RowKit
set_option linter.unusedVariables false
set_option linter.unusedSimpArgs false

section
variable {w : World} {col : Nat → Nat} {nb : Nat} {gd : GD} {delay room : Int} {pv : Value} {P : List PD} {fv : Value} {F : List FD} {used : Nat} {s : StN}
theorem netTake_no (h : NetAt w col nb gd delay room pv P fv F used s) (r now : Int) (hr : hasB gd.l.length r = false) :
    Calls Try.prog 11 #[.pointer (some ⟨nb, 0, none⟩), .int .i64 r, .int .i64 now] w fun e w' => e = .returned (.func (.func 31) #[] #[]) ∧ w = w' := by
  have hh := net_has h r
  rw [hr] at hh
  have HH := Lib.hid hh
  clear h hh hr
  go_enter Try.func11, Try.ntmps11
  go_wp2_with fail
  refine HH.out.mono ?_
  rintro e w2 ⟨rfl, rfl⟩
  go_wp2
  go_ret
  exact ⟨rfl, rfl⟩
theorem waiting_no (h : NetAt w col nb gd delay room pv P fv F used s) (r : Int) (hr : hasB gd.l.length r = false) :
    Calls Try.prog 16 #[.pointer (some ⟨nb, 0, none⟩), .int .i64 r] w fun e w' => e = .returned (.int .i64 0) ∧ w = w' := by
  have hh := net_has h r
  rw [hr] at hh
  have HH := Lib.hid hh
  clear h hh hr
  go_enter Try.func16, Try.ntmps16
  go_wp2_with fail
  refine HH.out.mono ?_
  rintro e w2 ⟨rfl, rfl⟩
  go_wp2
  go_ret
  exact ⟨rfl, rfl⟩
theorem send_no (h : NetAt w col nb gd delay room pv P fv F used s) (layer now : Int) (A : Option Addr) (n c : Nat) (hb : layer < 0 ∨ 7 < layer ∨ mayB n now = false) :
    Calls Try.prog 10 #[.pointer (some ⟨nb, 0, none⟩), .int .i64 layer, .slice A n c, .int .i64 now] w fun e w' => e = .returned (.tuple #[.int .i64 0, .int .i64 11]) ∧ w = w' := by
  by_cases g : layer < 0 ∨ 7 < layer
  · exact send_range layer now A n c g w nb
  · have hm : mayB n now = false := by rcases hb with x | x | x; exact absurd (.inl x) g; exact absurd (.inr x) g; exact x
    have hmy := may_any A n c now w
    rw [hm] at hmy
    have HMY := Lib.hid hmy
    have i0 : ¬ layer < 0 := by omega
    have i7 : ¬ 8 ≤ layer := by omega
    clear h hmy hm hb g
    go_enter Try.func10, Try.ntmps10
    go_wp2_with fail
    refine HMY.out.mono ?_
    rintro e w2 ⟨rfl, rfl⟩
    go_wp2
    exact bodyPost_ret (v := .tuple #[.int .i64 0, .int .i64 11]) (by simp [results, Try.results10, go_sem]) rfl ⟨rfl, rfl⟩
theorem up_no (h : NetAt w col nb gd delay room pv P fv F used s) (r now : Int) (A : Option Addr) (n c : Nat) (hb : hasB gd.l.length r = false ∨ mayB n now = false) :
    Calls Try.prog 36 #[.pointer (some ⟨nb, 0, none⟩), .int .i64 r, .slice A n c, .int .i64 now] w fun e w' => e = .returned (.int .i64 11) ∧ w = w' := by
  have hh := net_has h r
  have hmy := may_any A n c now w
  cases hr : hasB gd.l.length r with
  | false =>
    rw [hr] at hh
    have HH := Lib.hid hh
    clear h hh hr hmy hb
    go_enter Try.func36, Try.ntmps36
    go_wp2_with fail
    refine HH.out.mono ?_
    rintro e w2 ⟨rfl, rfl⟩
    go_wp2
    go_ret
    exact ⟨rfl, rfl⟩
  | true =>
    have hm : mayB n now = false := hb.elim (fun x => by rw [hr] at x; cases x) id
    rw [hr] at hh
    rw [hm] at hmy
    have HH := Lib.hid hh
    have HMY := Lib.hid hmy
    clear h hh hr hmy hb hm
    go_enter Try.func36, Try.ntmps36
    go_wp2_with fail
    refine HH.out.mono ?_
    rintro e w2 ⟨rfl, rfl⟩
    go_wp2_with fail
    refine HMY.out.mono ?_
    rintro e w2 ⟨rfl, rfl⟩
    go_wp2
    go_ret
    exact ⟨rfl, rfl⟩
set_option maxRecDepth 100000 in
set_option maxHeartbeats 1000000 in
theorem takeUp_yes (h : NetAt w col nb gd delay room pv P fv F used s) (p : PD) (now : Int) (hp : P[gd.l.length]? = some p) (hl : P.length ≤ 1000) :
    Calls Try.prog 50 #[.pointer (some ⟨nb, 0, none⟩), .int .i64 now] w fun e w' => ∃ pB, e = .returned (.func (.func 46) #[] #[.pointer (some ⟨pB, 0, none⟩), .pointer (some ⟨pB + 1, 0, none⟩)]) ∧ w.heap.size ≤ pB ∧
      Blk w' pB #[.pointer (some ⟨p.b, 0, none⟩)] 71 ∧ Blk w' (pB + 1) #[.int .i64 now] 3 ∧ Below w.heap.size w w' := by
  have hbd : Below w.heap.size w w.drew := below_drewN (Below.refl _ w) 1
  have hd := h.below hbd
  have HC := Lib.hid (count_any gd.b gd.g gd.c gd.l gd.j gd.lv w.drew hd.grp)
  have HT := Lib.hid (take_any p.b now w.drew)
  obtain ⟨n0, n1, n2, -⟩ := blk11 hd.str
  obtain ⟨pA, pc, rfl⟩ := ownsRow_slice h.row
  have hlt : gd.l.length < P.length := (List.getElem?_eq_some_iff.1 hp).1
  obtain ⟨b, o, c, he, hcc⟩ := (Reads.of_owns hd.row).at gd.l.length (pipeC p) (by rw [List.getElem?_map, hp]; rfl)
  cases he
  have i1 : (0 : Int) ≤ (gd.l.length : Int) := by omega
  have i2 : (gd.l.length : Int) < (P.length : Int) := by omega
  replace hcc : w.drew.cell? ⟨b, o + gd.l.length, none⟩ = some (.pointer (some ⟨p.b, 0, none⟩)) := hcc
  have hS : w.drew.cell? ⟨nb, 0, none⟩ = some (.pointer (some ⟨gd.b, 0, none⟩)) ∧ w.drew.cell? ⟨nb, 2, none⟩ = some (.slice (some ⟨b, o, none⟩) P.length pc) ∧ w.drew.cell? ⟨b, o + gd.l.length, none⟩ = some (.pointer (some ⟨p.b, 0, none⟩)) := ⟨n0, n2, hcc⟩
  have HSE : Hid (∀ w', Below w.drew.heap.size w.drew w' → w'.cell? ⟨nb, 0, none⟩ = some (.pointer (some ⟨gd.b, 0, none⟩)) ∧ w'.cell? ⟨nb, 2, none⟩ = some (.slice (some ⟨b, o, none⟩) P.length pc) ∧ w'.cell? ⟨b, o + gd.l.length, none⟩ = some (.pointer (some ⟨p.b, 0, none⟩))) := fun w' hb =>
    ⟨(hb.cell (p := ⟨nb, 0, none⟩) (World.block_lt_of_cell? _ _ n0)).trans n0, (hb.cell (p := ⟨nb, 2, none⟩) (World.block_lt_of_cell? _ _ n2)).trans n2, (hb.cell (p := ⟨b, o + gd.l.length, none⟩) (World.block_lt_of_cell? _ _ hcc)).trans hcc⟩
  clear h hd hp hbd n0 n1 n2 hcc
  go_enter Try.func50, Try.ntmps50
  go_wp2_with fail
  go_region_held3 (fun w' => w'.cell? ⟨nb, 0, none⟩ = some (.pointer (some ⟨gd.b, 0, none⟩)) ∧ w'.cell? ⟨nb, 2, none⟩ = some (.slice (some ⟨b, o, none⟩) P.length pc) ∧ w'.cell? ⟨b, o + gd.l.length, none⟩ = some (.pointer (some ⟨p.b, 0, none⟩))) (first | with_reducible exact hS | with_reducible exact hS3 | with_reducible assumption)
    (first
      | (go_at_call 45; refine HC.out.mono ?_; rintro e w2 ⟨rfl, rfl⟩)
      | (go_at_call 32; refine HT.out.mono ?_; rintro e w3 ⟨rfl, h1, h2, h3⟩; have H3 := Lib.hid (And.intro h1 (And.intro h2 h3)); have hS3 := HSE.out _ h3; clear h1 h2 h3))
  go_wp2
  go_ret
  exact ⟨_, rfl, Nat.le_refl _, H3.out.1, H3.out.2.1, bmore (below_drewN (Below.refl _ w) 1) H3.out.2.2 (Nat.le_refl _)⟩
set_option maxRecDepth 100000 in
set_option maxHeartbeats 2000000 in
theorem up_yes (h : NetAt w col nb gd delay room pv P fv F used s) (r now : Int) (p : PD) (hp : P[gd.l.length]? = some p) (hr : hasB gd.l.length r = true) (hl : P.length ≤ 1000)
    (A : Option Addr) (c : Nat) (bs : List Int) (hb : bs.length ≤ 320) (hbt : BtsI bs) (hx : Reads w 1 (.slice A bs.length c) bs.length (u8s bs)) (hxo : ∀ g, (Value.slice A bs.length c).ownBlock = some g → 0 < bs.length → col g = 0)
    (hro : 0 ≤ room ∧ room ≤ 1000) (hpl : (p.l.length : Int) ≤ room) (hs : StB 100000 s) (hF : F.length ≤ 100000) (hu : used ≤ 100000) (hd : 0 ≤ delay ∧ delay ≤ 64) (hn : 0 ≤ now ∧ now ≤ 1099511627776) :
    Calls Try.prog 36 #[.pointer (some ⟨nb, 0, none⟩), .int .i64 r, .slice A bs.length c, .int .i64 now] w fun e w' => e = .returned (.int .i64 0) ∧ NetR w w' col nb gd delay room pv P fv F (usedN F used) gd.l.length p (GiveL room (fateOf F used) (now + delay) bs p.l s) := by
  have hh := net_has h r
  rw [hr] at hh
  have HH := Lib.hid hh
  have hmy := may_any A bs.length c now w
  rw [show mayB bs.length now = true from decide_eq_true ⟨hn.1, hn.2, hb⟩] at hmy
  have HMY := Lib.hid hmy
  have hbd : Below w.heap.size w w.drew := below_drewN (Below.refl _ w) 1
  have hd1 := h.below hbd
  have HC := Lib.hid (count_any gd.b gd.g gd.c gd.l gd.j gd.lv w.drew hd1.grp)
  have HG := Lib.hid (give_any hd1 hp now A c bs (hx.below hbd) hbt (by omega) hxo hro (by omega) (hs.ok (by omega)) (by omega) (by omega) hd hn (by have := hs.dropped; omega))
  have HNR : Hid (∀ w', NetR w.drew w' col nb gd delay room pv P fv F (usedN F used) gd.l.length p (GiveL room (fateOf F used) (now + delay) bs p.l s) → NetR w w' col nb gd delay room pv P fv F (usedN F used) gd.l.length p (GiveL room (fateOf F used) (now + delay) bs p.l s)) := fun w' k => NetR.from (Keep.ofBelowAll hbd) k
  obtain ⟨n0, n1, n2, -⟩ := blk11 hd1.str
  obtain ⟨pA, pc, rfl⟩ := ownsRow_slice h.row
  have hlt : gd.l.length < P.length := (List.getElem?_eq_some_iff.1 hp).1
  obtain ⟨b, o, c', he, hcc⟩ := (Reads.of_owns hd1.row).at gd.l.length (pipeC p) (by rw [List.getElem?_map, hp]; rfl)
  cases he
  have i1 : (0 : Int) ≤ (gd.l.length : Int) := by omega
  have i2 : (gd.l.length : Int) < (P.length : Int) := by omega
  replace hcc : w.drew.cell? ⟨b, o + gd.l.length, none⟩ = some (.pointer (some ⟨p.b, 0, none⟩)) := hcc
  have hS : w.drew.cell? ⟨nb, 0, none⟩ = some (.pointer (some ⟨gd.b, 0, none⟩)) ∧ w.drew.cell? ⟨nb, 2, none⟩ = some (.slice (some ⟨b, o, none⟩) P.length pc) ∧ w.drew.cell? ⟨b, o + gd.l.length, none⟩ = some (.pointer (some ⟨p.b, 0, none⟩)) := ⟨n0, n2, hcc⟩
  have HSE : Hid (∀ w', NetR w.drew w' col nb gd delay room (.slice (some ⟨b, o, none⟩) P.length pc) P fv F (usedN F used) gd.l.length p (GiveL room (fateOf F used) (now + delay) bs p.l s) → w'.cell? ⟨nb, 0, none⟩ = some (.pointer (some ⟨gd.b, 0, none⟩)) ∧ w'.cell? ⟨nb, 2, none⟩ = some (.slice (some ⟨b, o, none⟩) P.length pc) ∧ w'.cell? ⟨b, o + gd.l.length, none⟩ = some (.pointer (some ⟨p.b, 0, none⟩))) := fun w' k => by
    obtain ⟨⟨col', v', l', s', k1, -, -⟩, -⟩ := k
    obtain ⟨m0, m1, m2, -⟩ := blk11 k1.str
    obtain ⟨b2, o2, c2, he2, hcc2⟩ := (Reads.of_owns k1.row).at gd.l.length (pipeC ⟨p.b, v', l'⟩) (by rw [List.getElem?_map, List.getElem?_set_self hlt]; rfl)
    obtain ⟨rfl, rfl⟩ : b2 = b ∧ o2 = o := by
      injection he2 with e1
      injection e1 with e1
      injection e1 with e4 e5
      exact ⟨e4.symm, e5.symm⟩
    exact ⟨m0, m2, hcc2⟩
  clear h hd1 hp hr hl hb hbt hx hxo hro hpl hs hF hu hd hn hbd n0 n1 n2 hcc hh hmy
  go_enter Try.func36, Try.ntmps36
  go_wp2_with fail
  refine HH.out.mono ?_
  rintro e w2 ⟨rfl, rfl⟩
  go_wp2_with fail
  refine HMY.out.mono ?_
  rintro e w2 ⟨rfl, rfl⟩
  go_wp2_with fail
  go_region_held3 (fun w' => w'.cell? ⟨nb, 0, none⟩ = some (.pointer (some ⟨gd.b, 0, none⟩)) ∧ w'.cell? ⟨nb, 2, none⟩ = some (.slice (some ⟨b, o, none⟩) P.length pc) ∧ w'.cell? ⟨b, o + gd.l.length, none⟩ = some (.pointer (some ⟨p.b, 0, none⟩))) (first | with_reducible exact hS | with_reducible exact hS3 | with_reducible assumption)
    (first
      | (go_at_call 45; refine HC.out.mono ?_; rintro e w2 ⟨rfl, rfl⟩)
      | (go_at_call 29; refine HG.out.mono ?_; rintro e w3 ⟨⟨v3, rfl⟩, h3⟩; have H3 := Lib.hid h3; have hS3 := HSE.out _ h3; clear h3))
  go_wp2
  go_ret
  exact ⟨rfl, HNR.out _ H3.out⟩
end
end Go.Proofs.Ytlodiibmofeikaa
