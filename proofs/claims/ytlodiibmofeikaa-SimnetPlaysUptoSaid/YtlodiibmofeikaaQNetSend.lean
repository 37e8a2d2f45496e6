/- simnet: Send, to one member, by a plain fate. -/
import Derived.Test.YtlodiibmofeikaaQDD
namespace Go.Proofs.Ytlodiibmofeikaa
open Go.RowKit
set_option linter.unusedVariables false
set_option linter.unusedSimpArgs false

section
variable {w : World} {col : Nat → Nat} {nb : Nat} {gd : GD} {delay room : Int} {pv : Value} {P : List PD} {fv : Value} {F : List FD} {used : Nat} {s : StN}
set_option maxRecDepth 100000 in
set_option maxHeartbeats 1000000 in
theorem send_one (h : NetAt w col nb gd delay room pv P fv F used s) (layer now : Int) (r : Nat) (p : PD) (hp : P[r]? = some p) (hm : mem gd.l layer now gd.l.length = [(r : Int)]) (hgl : gd.l.length ≤ 64) (hP : P.length ≤ 1000) (hly : 0 ≤ layer ∧ layer ≤ 7)
    (A : Option Addr) (c : Nat) (bs : List Int) (hb : bs.length ≤ 320) (hx : Reads w 1 (.slice A bs.length c) bs.length (u8s bs)) (hxo : ∀ g, (Value.slice A bs.length c).ownBlock = some g → col g = 0)
    (hr : 0 ≤ room ∧ room ≤ 1000) (hl : p.l.length ≤ 100000) (hs : StOk s) (hF : F.length ≤ 1000000) (hu : used ≤ 1000000) (hd : 0 ≤ delay ∧ delay ≤ 64) (hn : 0 ≤ now ∧ now ≤ 1099511627776)
    (hf : (fateOf F used).kind < 1 ∨ 4 < (fateOf F used).kind) :
    Calls Try.prog 10 #[.pointer (some ⟨nb, 0, none⟩), .int .i64 layer, .slice A bs.length c, .int .i64 now] w fun e w' => e = .returned (.tuple #[.int .i64 1, .int .i64 0]) ∧ LaidP w w' col nb gd delay room pv P fv F (usedN F used) s.send r (now + delay) bs := by
  have hmy := may_any A bs.length c now w
  rw [show mayB bs.length now = true from decide_eq_true ⟨hn.1, hn.2, hb⟩] at hmy
  have HMY := Lib.hid hmy
  have hme := members_any gd.b gd.g gd.c gd.l gd.j gd.lv layer now w h.grp hgl
  rw [hm] at hme
  have HME := Lib.hid hme
  have H := Lib.hid h
  have HG := Lib.hid (fun w1 (h1 : NetAt w1 col nb gd delay room pv P fv F used s) hx1 => give_plain h1 r p hp now A c bs hx1 hxo hr hl hs hF hu hd hn hf)
  have HX := Lib.hid hx
  have HP := Lib.hid hp
  obtain ⟨pA, pc, rfl⟩ := ownsRow_slice h.row
  obtain ⟨n0, n1, n2, -⟩ := blk11 h.str
  have i0 : ¬ layer < 0 := by omega
  have i7 : ¬ 8 ≤ layer := by omega
  have hlt : r < P.length := (List.getElem?_eq_some_iff.1 hp).1
  have j1 : (0 : Int) ≤ (r : Int) := by omega
  have j2 : (r : Int) < (P.length : Int) := by omega
  clear h hp hm hgl hly hb hx hxo hr hl hs hF hu hd hn hf hmy hme hlt
  go_enter Try.func10, Try.ntmps10
  go_wp2_with fail
  refine HMY.out.mono ?_
  rintro e w0 ⟨rfl, rfl⟩
  go_wp2_with fail
  refine HME.out.mono ?_
  rintro e w1 ⟨A1, c1, rfl, ho1, hb1⟩
  have HO1 := Lib.hid ho1
  have HB1 := Lib.hid hb1
  have H1 := Lib.hid (H.out.below hb1)
  have HX1 := Lib.hid (HX.out.below hb1)
  obtain ⟨mb, mo, mc, hme, hmc⟩ := (Reads.of_owns ho1).at 0 (.int .i64 (r : Int)) rfl
  cases hme
  replace hmc : w1.cell? ⟨mb, mo, none⟩ = some (.int .i64 (r : Int)) := by simpa using hmc
  obtain ⟨b, o, c', he, hcc⟩ := (Reads.of_owns H1.out.row).at r (pipeC p) (by rw [List.getElem?_map, HP.out]; rfl)
  cases he
  replace hcc : w1.cell? ⟨b, o + r, none⟩ = some (.pointer (some ⟨p.b, 0, none⟩)) := hcc
  clear n0 n1 n2 ho1 hb1
  obtain ⟨n0, n1, n2, -⟩ := blk11 H1.out.str
  have hone : ((([(r : Int)] : List Int).length : Nat) : Int) = 1 := rfl
  simp only [List.length_singleton] at *
  go_wp2_with fail
  go_loopw [12, 34] (fun _ i wr => ∃ k : Nat, k ≤ 1 ∧ i = .int .i64 k ∧ Hid (k = 0 → w1 = wr) ∧ Hid (k = 1 → LaidP w wr col nb gd delay room (.slice (some ⟨b, o, none⟩) P.length pc) P fv F (usedN F used) s.send r (now + delay) bs)) (fun _ i _ => 1 - (intOf i).toNat)
  case atStart => exact ⟨0, by omega, rfl, fun _ => rfl, fun h => absurd h (by decide)⟩
  case round =>
    obtain ⟨k, hk, rfl, HW, HL⟩ := hrel
    rcases (by omega : k = 0 ∨ k = 1) with rfl | rfl
    · have hw := HW.out rfl
      subst hw
      clear HW HL
      go_wp2_with fail
      refine (HG.out w1 H1.out HX1.out).mono ?_
      rintro e w4 ⟨⟨v4, rfl⟩, r4⟩
      have HR4 := Lib.hid (r4.from (Keep.ofBelowAll HB1.out))
      clear r4
      go_wp2
      go_roundw
      case rel => exact ⟨1, by omega, by go_num, fun h => absurd h (by decide), fun _ => HR4.out⟩
      case measure => simp [intOf]
    · have HLL := Lib.hid (HL.out rfl)
      clear HW HL
      go_wp2
      exact bodyPost_ret (v := .tuple #[.int .i64 1, .int .i64 0]) (by simp [results, Try.results10, go_sem]) rfl ⟨rfl, HLL.out⟩
end
end Go.Proofs.Ytlodiibmofeikaa
