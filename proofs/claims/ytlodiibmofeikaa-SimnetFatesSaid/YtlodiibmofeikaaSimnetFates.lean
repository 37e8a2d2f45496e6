/- simnet: the law SimnetFates. -/
import Derived.Test.YtlodiibmofeikaaNetAw
import Derived.Test.YtlodiibmofeikaaNetFatesP
namespace Go.Proofs.Ytlodiibmofeikaa
open Go.RowKit Go.Shelf
attribute [local go_sem] Oper.semAt_some
set_option linter.unusedVariables false
set_option linter.unusedSimpArgs false

def cntY (bs : List Int) (pre : List Yd) : Nat := pre.countP (fun y => decide (y.bs = bs))
def lB : List One := (List.replicate 1 one0).set 0 (stp 0 0 one0 0 0)
theorem mem_lB : memN lB 0 5 lB.length = [0] := by decide
/-- the net of the law, k messages sent -/
structure FN (wz w : World) (nb gb gg : Nat) (F : List FD) (bs : List Int) (k : Nat) (l : List Msg) (s : StN) : Prop where
  ex : ∃ col pv P fv, NetAt w col nb ⟨gb, gg, 1, lB, 0, 0⟩ 0 256 pv P fv F k s ∧ P.map (·.l) = [l, []] ∧ (∀ x, col x ≠ 0 → wz.heap.size ≤ x)
  fs : FS bs k l s
  bel : Below wz.heap.size wz w
theorem FN.below {wz w w' : World} {nb gb gg : Nat} {F : List FD} {bs : List Int} {k : Nat} {l : List Msg} {s : StN} (h : FN wz w nb gb gg F bs k l s) (hb : Below w.heap.size w w') : FN wz w' nb gb gg F bs k l s := by
  obtain ⟨⟨col, pv, P, fv, h1, h2, h3⟩, h4, h5⟩ := h
  exact ⟨⟨col, pv, P, fv, h1.below hb, h2, h3⟩, h4, bmore h5 hb h5.size⟩
theorem map_two {P : List PD} {l m : List Msg} (h : P.map (·.l) = [l, m]) : ∃ p q, P = [p, q] ∧ p.l = l ∧ q.l = m := by
  match P, h with
  | [p, q], h => simp at h; exact ⟨p, q, rfl, h.1, h.2⟩
theorem two_of_len {α : Type} {l : List α} (h : l.length = 2) : ∃ a b, l = [a, b] := by
  match l, h with
  | [a, b], _ => exact ⟨a, b, rfl⟩
theorem blk6 {w : World} {b : Nat} {v0 v1 v2 v3 v4 v5 : Value} {T : TypeId} (h : Blk w b #[v0, v1, v2, v3, v4, v5] T) : w.cell? ⟨b, 0, none⟩ = some v0 ∧ w.cell? ⟨b, 1, none⟩ = some v1 ∧ w.cell? ⟨b, 2, none⟩ = some v2 ∧ w.cell? ⟨b, 3, none⟩ = some v3 ∧ w.cell? ⟨b, 4, none⟩ = some v4 ∧ w.cell? ⟨b, 5, none⟩ = some v5 :=
  ⟨h.cell 0 rfl, h.cell 1 rfl, h.cell 2 rfl, h.cell 3 rfl, h.cell 4 rfl, h.cell 5 rfl⟩
/-- one more -/
theorem FN.send {wz w0 w : World} {nb gb gg : Nat} {F : List FD} {bs : List Int} {k : Nat} {l : List Msg} {s : StN} (h0 : FN wz w0 nb gb gg F bs k l s) (hb0 : Below w0.heap.size w0 w) (hk : k < F.length) (hF : F.length ≤ 100) (hb : bs.length ≤ 300) (hbt : BtsI bs) (A : Option Addr) (c : Nat) (hx : Reads wz 1 (.slice A bs.length c) bs.length (u8s bs)) (hxo : ∀ g, (Value.slice A bs.length c).ownBlock = some g → 0 < bs.length → g < wz.heap.size) :
    Calls Try.prog 10 #[.pointer (some ⟨nb, 0, none⟩), .int .i64 0, .slice A bs.length c, .int .i64 5] w fun e w' => e = .returned (.tuple #[.int .i64 1, .int .i64 0]) ∧ ∃ l' s', FN wz w' nb gb gg F bs (k + 1) l' s' ∧ l'.length = l.length + manyF (fateOf F k) ∧ ∀ q, w0.heap.size ≤ q → q < w.heap.size → w'.heap[q]? = w.heap[q]? := by
  obtain ⟨⟨col, pv, P, fv, h01, h2, h3⟩, h4, h05⟩ := h0
  have h1 := h01.below hb0
  have h5 := bmore h05 hb0 h05.size
  obtain ⟨p, q, rfl, hp, hq⟩ := map_two h2
  have hll := h4.many
  have h := send_yes h1 0 5 (by show lB.length ≤ 64; decide) ⟨by show lB.length ≤ 2; decide, by simp⟩ (by omega) A c bs (by omega) hbt (hx.below h5)
    (fun g hg ps => ⟨(Nat.eq_zero_or_pos (col g)).elim id (fun e => by have h6 := h3 g (by omega); have h7 := hxo g hg ps; omega), Nat.lt_of_lt_of_le (hxo g hg ps) h5.size⟩)
    (by omega) (fun x hx => (List.mem_cons.1 hx).elim (fun e => by rw [e, hp]; omega) (fun e => by rw [List.mem_singleton.1 e, hq]; simp)) (h4.bnd.mono (by omega)) (by omega) (by omega) (by omega) (by omega)
  have hm : memN lB 0 5 lB.length = [0] := mem_lB
  rw [show (⟨gb, gg, 1, lB, 0, 0⟩ : GD).l = lB from rfl, hm] at h
  refine h.mono ?_
  rintro e w' ⟨rfl, ⟨⟨col', P', u', s', n1, n2, n3⟩, n4⟩⟩
  obtain ⟨l0, l', e1, e2, e3, e4⟩ := n3.one
  rw [h2] at e1 e3
  simp at e1
  subst e1
  simp at e3
  have hu : u' = k + 1 := by rw [e4]; unfold usedN; rw [if_pos hk]
  subst hu
  obtain ⟨g1, g2⟩ := h4.next (by omega) hb hbt e2
  exact ⟨rfl, l', s', ⟨⟨col', pv, P', fv, n1, e3, fun x hx => (n2 x hx).elim (h3 x) (fun y => Nat.le_trans h5.size y)⟩, g1, bkeep h5 n4 (Nat.le_refl _) (fun x hx => h3 x hx)⟩, g2, fun q hq hl => n4.block q hl (fun e => e (h01.top q hq))⟩
set_option maxRecDepth 100000 in
set_option maxHeartbeats 8000000 in
theorem simnetFates_main (F : List FD) (fA : Option Addr) (fc : Nat) (bs : List Int) (A : Option Addr) (c : Nat) (w : World) (hFx : Reads w 2 (.slice fA F.length fc) F.length (F.flatMap fateCells)) (hF : F.length ≤ 100) (hb : bs.length ≤ 300) (hbt : BtsI bs) (hx : Reads w 1 (.slice A bs.length c) bs.length (u8s bs)) :
    Calls Try.prog 3 #[.slice fA F.length fc, .slice A bs.length c] w fun e w' => e = .returned (.bool true) ∧ Below w.heap.size w w' := by
  have HNY := Lib.hid (fun (w : World) (hFx : Reads w 2 (.slice fA F.length fc) F.length (F.flatMap fateCells)) => netNew_ok 1 0 256 0 0 fA fc F w ⟨by omega, by omega, by omega, by omega, by omega⟩ hFx (by omega))
  have HAW := Lib.hid awake_any
  have HB := Lib.hid hb
  have hbz : Below w.heap.size w (w.alloc (.cells #[.slice A bs.length c] 23)) := (Below.refl _ w).alloc (Nat.le_refl _) _
  have HBZ := Lib.hid hbz
  have HTX := Lib.hid (Blk.new w #[.slice A bs.length c] 23)
  have HFX := Lib.hid (hFx.below hbz)
  have HX := Lib.hid (hx.below hbz)
  have HXO : Hid (∀ g, (Value.slice A bs.length c).ownBlock = some g → 0 < bs.length → g < (w.alloc (.cells #[.slice A bs.length c] 23)).heap.size) := fun g hg ps => Nat.lt_of_lt_of_le (hx.lt g hg ps) hbz.size
  have HBT := Lib.hid hbt
  have i1 : ¬ (100 : Int) < (F.length : Int) := by omega
  have i2 : ¬ (300 : Int) < (bs.length : Int) := by omega
  clear hbz hFx hx hb hbt
  refine callsIn_wide.1 (callsIn_of_wp_marks (F := Fence.wide) (n := 9) Try.func3 rfl trivial ?_)
  rw [wpIn_wide]
  simp only [Try.ntmps3, List.size_toArray, List.length_cons, List.length_nil, Nat.reduceAdd, Nat.reduceSub, Array.replicate_succ, Array.replicate_zero, List.push_toArray, List.append_toArray, List.nil_append, List.cons_append]
  go_wp2_with fail
  generalize w.alloc (.cells #[.slice A bs.length c] 23) = wz at *
  refine (HNY.out wz HFX.out).mono ?_
  rintro e w1 ⟨nb, rfl, ⟨col, gb, gg, pv, P, fv, hnt, hpl, hnp, hco⟩, hb1⟩
  have HTX1 := Lib.hid (HTX.out.below hb1)
  obtain ⟨p0, p1, rfl⟩ : ∃ p0 p1, P = [p0, p1] := two_of_len hpl
  have HLL : Hid ([p0, p1].map (·.l) = [[], []]) := by show _ = _; simp [hnp p0 (by simp), hnp p1 (by simp)]
  have HAS := Lib.hid (ask_yes gb gg 1 (List.replicate 1 one0) 0 0 0 0 0 one0 w1 hnt.grp rfl ⟨by simp, by simp, by omega, by omega, by omega, by omega⟩ (by decide) ⟨by omega, by omega, by omega, by omega⟩)
  have HNT := Lib.hid hnt
  have HCO := Lib.hid hco
  have HB1 := Lib.hid hb1
  clear hnt hpl hnp hb1 hco HNY
  obtain ⟨n0, n1, n2, n3, n4, -⟩ := blk11 HNT.out.str
  go_wp2_with fail
  refine HAS.out.mono ?_
  rintro e w2 ⟨rfl, hg2, hk2⟩
  have HN2 : Hid (FN wz w2 nb gb gg F bs 0 [] stN0) := ⟨⟨col, pv, [p0, p1], fv, HNT.out.ask (l' := lB) hg2 hk2, HLL.out, HCO.out⟩, FS.zero bs, bkeep HB1.out hk2 (Nat.le_refl _) (fun q e => HCO.out q (by rw [e, HNT.out.c3]; decide))⟩
  clear hg2 hk2 n0 n1 n2 n3 n4 HNT HB1 HAS HLL HCO HTX1
  clear col pv fv p0 p1
  go_wp2_with fail
  go_loopw [7, 48] (fun want i wr => ∃ (k : Nat) (l : List Msg) (s : StN), k ≤ F.length ∧ i = .int .i64 k ∧ Hid (FN wz wr nb gb gg F bs k l s) ∧ want = .int .i64 l.length) (fun _ i _ => F.length - (intOf i).toNat)
  case atStart => exact ⟨0, [], stN0, by omega, rfl, HN2, rfl⟩
  case round =>
    obtain ⟨k, l, s, hk, rfl, HN, rfl⟩ := hrel
    by_cases hlt : k < F.length
    · obtain ⟨o, ho⟩ : ∃ o, F[k]? = some o := ⟨_, List.getElem?_eq_getElem hlt⟩
      have hfo : fateOf F k = o := by unfold fateOf; rw [ho]; rfl
      obtain ⟨g, p, c', he, hcc⟩ := Reads.elem (HFX.out.below HN.out.bel) fateCells_len (by omega) ho
      cases he
      have o0 := hcc 0 _ rfl
      have o1 := hcc 1 _ rfl
      replace o0 : wr.cell? ⟨g, p + k * 2, none⟩ = some (.int .i64 o.kind) := o0
      have ht := HTX.out.below HN.out.bel
      have t0 : wr.cell? ⟨w.heap.size, 0, none⟩ = some (.slice A bs.length c) := ht.cell 0 rfl
      have hlz := ht.lt
      have hb4 : Below wr.heap.size wr (wr.alloc (.cells #[.int .i64 o.kind, .int .i64 o.n] 39)) := (Below.refl _ wr).alloc (Nat.le_refl _) _
      have HSND := Lib.hid (HN.out.send hb4 hlt hF HB.out HBT.out A c HX.out HXO.out)
      rw [hfo] at HSND
      have HBX := Lib.hid (Blk.new wr #[.int .i64 o.kind, .int .i64 o.n] 39)
      have j1 : (0 : Int) ≤ (k : Int) := by omega
      have j2 : (k : Int) < (F.length : Int) := by omega
      have HLL := Lib.hid HN.out.fs.many
      have HK : Hid (k < 100) := by show _ < _; omega
      clear hcc ho hfo ht hb4
      go_wp2_with fail
      generalize wr.alloc (.cells #[.int .i64 o.kind, .int .i64 o.n] 39) = w3 at *
      refine HSND.out.mono ?_
      rintro e w4 ⟨rfl, l', s', hn4, hlen, hkp⟩
      have HN4 := Lib.hid hn4
      have hbx4 : Blk w4 wr.heap.size #[.int .i64 o.kind, .int .i64 o.n] 39 := (hkp _ (Nat.le_refl _) HBX.out.lt).trans HBX.out
      have HLN := Lib.hid hlen
      obtain ⟨b0, b1⟩ := blk2 hbx4
      clear hn4 hlen hkp hbx4 o0 o1 t0
      by_cases k1 : o.kind = 1
      · have HM : Hid (manyF o = 0) := if_pos k1
        go_wp2
        go_roundw
        case rel => exact ⟨k + 1, l', s', by omega, by go_num, HN4.out, by have h1 := HLN.out; have h2 := HM.out; rw [h1, h2]; rfl⟩
        case measure => simp [intOf]; omega
      · by_cases k2 : o.kind = 2
        · have HM : Hid (manyF o = 2) := by show _ = _; unfold manyF; rw [if_neg k1, if_pos k2]
          have hl2 := HLL.out
          have hk2 := HK.out
          go_wp2
          go_roundw
          case rel => exact ⟨k + 1, l', s', by omega, by go_num, HN4.out, by have h1 := HLN.out; have h2 := HM.out; rw [h1, h2]; rfl⟩
          case measure => simp [intOf]; omega
        · have HM : Hid (manyF o = 1) := by show _ = _; unfold manyF; rw [if_neg k1, if_neg k2]
          have hl2 := HLL.out
          have hk2 := HK.out
          have q1 : (o.kind == 1) = false := by simp [k1]
          have q2 : (o.kind == 2) = false := by simp [k2]
          go_wp2
          go_roundw
          case rel => exact ⟨k + 1, l', s', by omega, by go_num, HN4.out, by have h1 := HLN.out; have h2 := HM.out; rw [h1, h2]; rfl⟩
          case measure => simp [intOf]; omega
    · obtain rfl : k = F.length := by omega
      clear HN2 hk hlt
      obtain ⟨⟨col, pv, P, fv, hnt, hll, hco⟩, hfs, hbe⟩ := HN.out
      obtain ⟨p, q, rfl, hpl, hql⟩ := map_two hll
      subst hpl
      have HFS := Lib.hid hfs
      have HCO := Lib.hid hco
      have HPP0 : Hid (([p, q] : List PD)[0]? = some p) := rfl
      have hsz : (wr.alloc (.cells #[.int .i64 0] 3)).heap.size = wr.heap.size + 1 := by simp
      have hb2 : Below wr.heap.size wr ((wr.alloc (.cells #[.int .i64 0] 3)).alloc (.cells #[.int .i64 0] 3)) := ((Below.refl _ wr).alloc (Nat.le_refl _) _).alloc (by rw [hsz]; omega) _
      have HN5 := Lib.hid (hnt.below hb2)
      have HB5 := Lib.hid (bmore hbe hb2 hbe.size)
      have HGA := Lib.hid ((Blk.new wr #[.int .i64 0] 3).alloc (.cells #[.int .i64 0] 3))
      have hgb := Blk.new (wr.alloc (.cells #[.int .i64 0] 3)) #[.int .i64 0] 3
      rw [hsz] at hgb
      have HGB := Lib.hid hgb
      have HL5 : Hid (∀ x, col x ≠ 0 → x < wr.heap.size) := fun x hx => hnt.lt hx
      have HZ0 : Hid (((wr.alloc (.cells #[.int .i64 0] 3)).alloc (.cells #[.int .i64 0] 3)).heap.size = wr.heap.size + 2) := by show _ = _; simp
      have HWZ : Hid (wz.heap.size ≤ wr.heap.size) := hbe.size
      clear hnt hll hco hfs hbe hql hsz hb2 hgb HN
      go_wp2_with fail
      generalize (wr.alloc (.cells #[.int .i64 0] 3)).alloc (.cells #[.int .i64 0] 3) = w5 at *
      generalize wr.heap.size = pA at *
      refine (netTake_yes HN5.out 0 p 100 HPP0.out (by show 0 < lB.length; decide) (by simp)).mono ?_
      rintro e w6 ⟨rfl, hpb, hpn, hb6⟩
      have HPB := Lib.hid hpb
      have HPN := Lib.hid hpn
      have HN6 := Lib.hid (HN5.out.below hb6)
      have HA6 := Lib.hid (HGA.out.below hb6)
      have HB6 := Lib.hid (HGB.out.below hb6)
      have HW6 := Lib.hid (bmore HB5.out hb6 HB5.out.size)
      have HZ6 : Hid (w5.heap.size + 1 < w6.heap.size) := hpn.lt
      clear hpb hpn hb6 HN5 HGA HGB HB5
      have HPP := Lib.hid (HN6.out.pipes 0 p HPP0.out)
      have hfar : ∀ x, col x ≠ 0 → ¬ (x = pA ∨ x = pA + 1 ∨ w6.heap.size ≤ x) ∧ x < pA := fun x hx => by have h1 := HL5.out x hx; have h2 := HZ0.out; have h3 := HZ6.out; omega
      have HFAR := Lib.hid hfar
      clear hfar
      have HSEQ := Lib.hid (take_seq (9 - 1) (by omega) w5.heap.size (w5.heap.size + 1) p.b p.v.ownBlock p.l 256 100 (fun x => col x = 6 + 0) (fun x => x = pA ∨ x = pA + 1 ∨ w6.heap.size ≤ x) w6
        (fun x hx => by have hx := hx.elim id (fun x => x.elim); have h1 := HFAR.out x (by omega); have h2 := HZ0.out; have h3 := HZ6.out; exact ⟨h1.1, by omega⟩) HPP.out.gb HPP.out.gv
        ⟨fun e => by have e' : col w5.heap.size = 6 + 0 := e; have := HFAR.out _ (show col w5.heap.size ≠ 0 by omega); have h2 := HZ0.out; omega, fun e => by have h2 := HZ0.out; have h3 := HZ6.out; omega⟩
        ⟨fun e => by have e' : col (w5.heap.size + 1) = 6 + 0 := e; have := HFAR.out _ (show col (w5.heap.size + 1) ≠ 0 by omega); have h2 := HZ0.out; omega, fun e => by have h2 := HZ0.out; have h3 := HZ6.out; omega⟩
        (by have h1 := HFS.out.many; omega) HPB.out HPN.out ⟨p.v, HPP.out, rfl⟩)
      have HT6 : Hid (∀ x, x = p.b ∨ p.v.ownBlock = some x → col x = 6) := fun x hx => hx.elim (fun e => by rw [e]; exact HPP.out.gb) (fun e => HPP.out.gv x e)
      have HH6 := Lib.hid (HN6.out.hole 0)
      go_wp2_with fail
      refine (wpIn_wide (n := 9)).1 ?_
      refine' wpIn_rangeOwnY (F := Fence.wide) (n := 9) rfl (by omega) (gf := 46) (lb := #[.pointer (some ⟨w5.heap.size, 0, none⟩), .pointer (some ⟨w5.heap.size + 1, 0, none⟩)]) rfl trivial (enters_of Try.func46 (by kernel_rfl) rfl)
        HSEQ.out (fun pre x N W l o o' h hl ho hc => h.turn ho hc) (fun h k => h.trans k) (fun W l o o' hl ho hc => keepC_turn ho hc _)
        (fun x hx => by have h1 := HFAR.out x (by rw [HT6.out x hx]; decide); have h2 := HZ0.out; have h3 := HZ6.out; omega) (fun _ => rfl)
        (fun xs W l o o' h hl ho hc => ⟨h.1.turn ho hc, h.2⟩) (fun pre W l o o' h hl ho hc => ⟨h.1.turn ho hc, h.2⟩)
        (fun (pre : List Yd) W => Blk W pA #[.int .i64 pre.length] 3 ∧ Blk W (pA + 1) #[.int .i64 (cntY bs pre : Int)] 3 ∧ Below wz.heap.size wz W ∧ NetHole W col 0 nb ⟨gb, gg, 1, lB, 0, 0⟩ 0 256 pv [p, q] fv F F.length s ∧ pre.map (·.bs) = (p.l.take pre.length).map (·.bs)) (fun _ _ _ => False)
        (fun pre W l o o' h hl ho hc => ⟨blk_turn h.1 ho hc, blk_turn h.2.1 ho hc, below_turn h.2.2.1 (Nat.le_trans HW6.out.size hl), h.2.2.2.1.turn ho hc, h.2.2.2.2⟩) (fun c pre W l o o' h _ _ _ => h)
        (fun pre A B h k => ⟨h.1.keep k (fun e => by have := HFAR.out pA (by rw [HT6.out _ e]; decide); omega), h.2.1.keep k (fun e => by have := HFAR.out (pA + 1) (by rw [HT6.out _ e]; decide); omega), bkeep h.2.2.1 k (Nat.le_refl _) (fun x hx => HCO.out x (by rw [HT6.out _ hx]; decide)), h.2.2.2.1.keep k (fun x _ hx e => hx (by rw [HT6.out _ e])), h.2.2.2.2⟩)
        ⟨HA6.out, HB6.out, HW6.out, HH6.out, rfl⟩ _ ?assign ?body ?done ?stop
      case assign =>
        intro l x W K hK
        gi_wp2
        exact hK
      case stop =>
        rintro D c pre W hD hSp hx hK
        exact hx.elim
      case body =>
        rintro l pre x W0 W hi0 - ⟨hka, hkb, hbw, hnh, hpre⟩ hy
        obtain ⟨⟨m, hm, hmd, hxb⟩, hyo, hyl, hyn, hyt⟩ := hy
        have hpl := (List.getElem?_eq_some_iff.1 hm).1
        have hmany := HFS.out.many
        have hcnt : cntY bs pre ≤ pre.length := List.countP_le_length
        obtain ⟨cn, hcn⟩ : ∃ cn, cn = cntY bs pre := ⟨_, rfl⟩
        rw [← hcn] at hkb hcnt
        have a0 : W.cell? ⟨pA, 0, none⟩ = some (.int .i64 pre.length) := hka.cell 0 rfl
        have a1 := hka.frozen 0
        have hs1 : Blk (W.setCell ⟨pA, 0, none⟩ (.int .i64 ((pre.length : Int) + 1))) pA #[.int .i64 ((pre.length : Int) + 1)] 3 := hka.set' rfl
        have hk1 : Keep (fun x => x = pA) W (W.setCell ⟨pA, 0, none⟩ (.int .i64 ((pre.length : Int) + 1))) := (Keep.refl (fun x => x = pA) W).setCell (p := ⟨pA, 0, none⟩) (.inl rfl) _
        have b0 : (W.setCell ⟨pA, 0, none⟩ (.int .i64 ((pre.length : Int) + 1))).cell? ⟨pA + 1, 0, none⟩ = some (.int .i64 cn) := (hkb.keep hk1 (by omega)).cell 0 rfl
        have b1 := (hkb.keep hk1 (by omega)).frozen 0
        have hbw1 := bkeep hbw hk1 (Nat.le_refl _) (fun x hx => by have := HWZ.out; omega)
        have htx := HTX.out.below hbw1
        have t0 : (W.setCell ⟨pA, 0, none⟩ (.int .i64 ((pre.length : Int) + 1))).cell? ⟨w.heap.size, 0, none⟩ = some (.slice A bs.length c) := htx.cell 0 rfl
        have hcv2 := conv_ints (HX.out.below hbw1)
        have hW0 : pA + 1 < W0.heap.size := hi0.2.1.lt
        have hcv1 := conv_ints ((Reads.of_owns hyo).keep hk1 (fun g hg _ e => by have := (hyo.lt g hg).1; omega))
        have hby := HFS.out.byt m (List.mem_of_getElem? hm)
        rw [hxb] at hcv1
        have hpre2 : (pre ++ [x]).map (·.bs) = (p.l.take (pre ++ [x]).length).map (·.bs) := by
          rw [List.map_append, hpre, List.length_append, List.length_singleton, List.take_add_one, hm, Option.toList_some, List.map_append]
          simp [hxb]
        have HPRE := Lib.hid hpre2
        have HCN : Hid (cntY bs (pre ++ [x]) = cn + (if m.bs = bs then 1 else 0)) := by
          show _ = _
          unfold cntY
          rw [List.countP_append, hcn, List.countP_cons, hxb]
          simp [cntY]
        have HK1 := Lib.hid hk1
        have HKA := Lib.hid hs1
        have HKB := Lib.hid (hkb.keep hk1 (by omega))
        have HBW := Lib.hid hbw1
        have HNH := Lib.hid hnh
        have HPL : Hid ((pre ++ [x]).length = pre.length + 1) := by show _ = _; simp
        clear hm hmd hxb hyo hyl hyn hyt hs1 hk1 hbw1 htx hpre hpre2 hcn hka hkb hbw hnh hi0
        by_cases hsame : m.bs = bs
        · rw [hsame] at hcv1
          rw [if_pos hsame] at HCN
          generalize strOfNums bs = T at *
          clear hsame hby
          have HS1 : Hid (Blk ((W.setCell ⟨pA, 0, none⟩ (.int .i64 ((pre.length : Int) + 1))).setCell ⟨pA + 1, 0, none⟩ (.int .i64 ((cn : Int) + 1))) pA #[.int .i64 ((pre.length : Int) + 1)] 3) := HKA.out.setOther (show pA ≠ pA + 1 by omega) _
          have HS2 : Hid (Blk ((W.setCell ⟨pA, 0, none⟩ (.int .i64 ((pre.length : Int) + 1))).setCell ⟨pA + 1, 0, none⟩ (.int .i64 ((cn : Int) + 1))) (pA + 1) #[.int .i64 ((cn : Int) + 1)] 3) := HKB.out.set' rfl
          have HS3 : Hid (KeepsOthers W ((W.setCell ⟨pA, 0, none⟩ (.int .i64 ((pre.length : Int) + 1))).setCell ⟨pA + 1, 0, none⟩ (.int .i64 ((cn : Int) + 1)))) := (KeepsOthers.setCell _ _ _).trans (KeepsOthers.setCell _ _ _)
          have HS4 : Hid (KeepC (fun x => x = pA ∨ x = pA + 1 ∨ w6.heap.size ≤ x) W ((W.setCell ⟨pA, 0, none⟩ (.int .i64 ((pre.length : Int) + 1))).setCell ⟨pA + 1, 0, none⟩ (.int .i64 ((cn : Int) + 1)))) := ((KeepC.refl _ W).setCell (p := ⟨pA, 0, none⟩) (.inl rfl) _).setCell (p := ⟨pA + 1, 0, none⟩) (.inr (.inl rfl)) _
          have HS5 := Lib.hid (HBW.out.setCell (p := ⟨pA + 1, 0, none⟩) (Nat.le_trans HWZ.out (Nat.le_succ _)) (.int .i64 ((cn : Int) + 1)))
          have HS6 := Lib.hid (HNH.out.keepC HS4.out (fun x hx _ e => (HFAR.out x hx).1 e))
          gi_wp2
          refine ⟨HS3.out, HS4.out, ?_, ?_, HS5.out, HS6.out, HPRE.out⟩
          · rw [HPL.out]; exact HS1.out
          · rw [HCN.out]; exact HS2.out
        · have hne : ¬ strOfNums m.bs = strOfNums bs := fun e => hsame (strOfNums_inj hby HBT.out e)
          rw [if_neg hsame] at HCN
          generalize strOfNums bs = T at *
          generalize strOfNums m.bs = T2 at *
          have hne3 : ¬ T2.toList = T.toList := fun e => hne (by rw [ByteArray.toList_eq, ByteArray.toList_eq] at e; exact ByteArray.ext (Array.ext' e))
          have hne2 : (T2.toList == T.toList) = false := beq_eq_false_iff_ne.2 hne3
          clear hsame hby
          have HS3 : Hid (KeepsOthers W (W.setCell ⟨pA, 0, none⟩ (.int .i64 ((pre.length : Int) + 1)))) := KeepsOthers.setCell _ _ _
          have HS4 : Hid (KeepC (fun x => x = pA ∨ x = pA + 1 ∨ w6.heap.size ≤ x) W (W.setCell ⟨pA, 0, none⟩ (.int .i64 ((pre.length : Int) + 1)))) := (KeepC.refl _ W).setCell (p := ⟨pA, 0, none⟩) (.inl rfl) _
          have HS6 := Lib.hid (HNH.out.keepC HS4.out (fun x hx _ e => (HFAR.out x hx).1 e))
          gi_wp2
          refine ⟨HS3.out, HS4.out, ?_, ?_, HBW.out, HS6.out, HPRE.out⟩
          · rw [HPL.out]; exact HKA.out
          · rw [HCN.out]; exact HKB.out
      case done =>
        rintro D xs W hD ⟨hT, hxs⟩ ⟨hka, hkb, hbw, hnh, hpre⟩ hK
        rw [HFS.out.all] at hxs
        rw [hxs, List.take_length] at hpre
        have hcn : cntY bs xs = p.l.countP (isT bs) := by
          have h1 : ∀ (a : List Yd) (b : List Msg), a.map (·.bs) = b.map (·.bs) → cntY bs a = b.countP (isT bs) := by
            intro a
            induction a with
            | nil => intro b h; cases b with
              | nil => rfl
              | cons y b => simp at h
            | cons z a ih => intro b h; cases b with
              | nil => simp at h
              | cons y b =>
                simp only [List.map_cons, List.cons.injEq] at h
                have h2 := ih b h.2
                unfold cntY at h2 ⊢
                rw [List.countP_cons, List.countP_cons, h2, h.1]
                rfl
          exact h1 xs p.l hpre
        rw [hcn] at hkb
        rw [hxs] at hka hT
        obtain ⟨v7, hp7, -⟩ := hT
        have HN7 := Lib.hid (hnh.fill HPP0.out hp7)
        have HA7 := Lib.hid hka
        have HB7 := Lib.hid hkb
        have HW7 := Lib.hid hbw
        have HD7 : Hid (Dfd D W) := hK
        have HDW : Hid (wz.heap.size ≤ D) := Nat.le_trans HW6.out.size hD
        obtain ⟨se, lo, dr, du, la, tu⟩ := s
        obtain rfl : se = (F.length : Int) := HFS.out.sent
        obtain rfl : dr = 0 := HFS.out.drop
        clear hp7 hka hkb hbw hnh hK hpre hcn hxs hD HN6 HA6 HB6 HW6 HPP HSEQ HT6 HH6 HPB HPN
        go_wp2_with fail
        refine (netStats_any HN7.out).mono ?_
        rintro e w8 ⟨rfl, hb8⟩
        have hb9 : Below w8.heap.size w8 (w8.alloc (.cells #[.int .i64 (F.length : Int), .int .i64 lo, .int .i64 0, .int .i64 du, .int .i64 la, .int .i64 tu] 35)) := (Below.refl _ w8).alloc (Nat.le_refl _) _
        have HBX := Lib.hid (Blk.new w8 #[.int .i64 (F.length : Int), .int .i64 lo, .int .i64 0, .int .i64 du, .int .i64 la, .int .i64 tu] 35)
        have HA9 := Lib.hid ((HA7.out.below hb8).below hb9)
        have HB9 := Lib.hid ((HB7.out.below hb8).below hb9)
        have HW9 := Lib.hid (bmore (bmore HW7.out hb8 HW7.out.size) hb9 (Nat.le_trans HW7.out.size hb8.size))
        have HD9 := Lib.hid ((HD7.out.keep (Keep.none hb8) id).keep (Keep.none hb9) id)
        clear hb8 hb9 HN7 HA7 HB7 HW7 HD7
        have HTX9 := Lib.hid (HTX.out.below HW9.out)
        have hlen : (p.l.length : Int) = (F.length : Int) - lo + du := HFS.out.len
        have hsame : (p.l.countP (isT bs) : Int) = (p.l.length : Int) - (if 0 < bs.length then tu else 0) := HFS.out.same
        obtain ⟨tt, htt⟩ : ∃ tt, tt = (if 0 < bs.length then tu else 0) := ⟨_, rfl⟩
        rw [← htt] at hsame
        obtain ⟨s1, s2, s3, s4, s5, s6⟩ := HFS.out.bnd
        simp only at s1 s2 s3 s4 s5 s6
        have hmany := HFS.out.many
        have hl0 : (0 : Int) ≤ (p.l.length : Int) := by omega
        have hl1 : (p.l.length : Int) ≤ 200 := by omega
        have htb : 0 ≤ tt ∧ tt ≤ 300 := by rw [htt]; split <;> omega
        have hc0 : (0 : Int) ≤ (p.l.countP (isT bs) : Int) := by omega
        generalize ((p.l.countP (isT bs) : Nat) : Int) = cnt at *
        generalize ((p.l.length : Nat) : Int) = ln at *
        subst hsame
        subst hlen
        have y0 : (w8.alloc (.cells #[.int .i64 (F.length : Int), .int .i64 lo, .int .i64 0, .int .i64 du, .int .i64 la, .int .i64 tu] 35)).cell? ⟨pA, 0, none⟩ = some (.int .i64 ((F.length : Int) - lo + du)) := HA9.out.cell 0 rfl
        have y1 : (w8.alloc (.cells #[.int .i64 (F.length : Int), .int .i64 lo, .int .i64 0, .int .i64 du, .int .i64 la, .int .i64 tu] 35)).cell? ⟨pA + 1, 0, none⟩ = some (.int .i64 ((F.length : Int) - lo + du - tt)) := HB9.out.cell 0 rfl
        have y2 : (w8.alloc (.cells #[.int .i64 (F.length : Int), .int .i64 lo, .int .i64 0, .int .i64 du, .int .i64 la, .int .i64 tu] 35)).cell? ⟨w.heap.size, 0, none⟩ = some (.slice A bs.length c) := HTX9.out.cell 0 rfl
        obtain ⟨b0, b1, b2, b3, b4, b5⟩ := blk6 HBX.out
        dsimp only
        clear hmany
        by_cases hz : 0 < bs.length
        · have i3 : (0 : Int) < (bs.length : Int) := by omega
          rw [if_pos hz] at htt
          subst htt
          clear hz
          go_wp2_with fail
          refine (HAW.out _).mono ?_
          rintro e wA ⟨rfl, hbA⟩
          have HDA := Lib.hid (HD9.out.keep (Keep.none hbA) id)
          have HWA := Lib.hid (bmore HW9.out hbA HW9.out.size)
          clear hbA y0 y1 y2 b0 b1 b2 b3 b4 b5 HA9 HB9 HBX HD9 HW9 HTX9
          go_wp2
          refine ⟨by simp, .inl ⟨_, _, rfl, run_takeDeferred HDA.out, ?_⟩⟩
          refine ⟨.bool true, ?_, rfl, below_turn (bmore HBZ.out HWA.out HBZ.out.size) (Nat.le_trans HBZ.out.size HDW.out)⟩
          simp [results, Try.f3, go_sem]
        · have i3 : ¬ (0 : Int) < (bs.length : Int) := by omega
          rw [if_neg hz] at htt
          subst htt
          clear hz
          go_wp2_with fail
          refine (HAW.out _).mono ?_
          rintro e wA ⟨rfl, hbA⟩
          have HDA := Lib.hid (HD9.out.keep (Keep.none hbA) id)
          have HWA := Lib.hid (bmore HW9.out hbA HW9.out.size)
          clear hbA y0 y1 y2 b0 b1 b2 b3 b4 b5 HA9 HB9 HBX HD9 HW9 HTX9
          go_wp2
          refine ⟨by simp, .inl ⟨_, _, rfl, run_takeDeferred HDA.out, ?_⟩⟩
          refine ⟨.bool true, ?_, rfl, below_turn (bmore HBZ.out HWA.out HBZ.out.size) (Nat.le_trans HBZ.out.size HDW.out)⟩
          simp [results, Try.f3, go_sem]
end Go.Proofs.Ytlodiibmofeikaa
