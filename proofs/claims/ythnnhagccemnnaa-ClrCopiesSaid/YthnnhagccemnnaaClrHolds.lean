/- clr: the law ClrHolds. -/
import Derived.Test.YthnnhagccemnnaaClr8
namespace Go.Proofs.Ythnnhagccemnnaa
open Go.RowKit
set_option linter.unusedVariables false
set_option linter.unusedSimpArgs false

structure OpD where
  kind : Int
  frm : Int
  ago : Int
  later : Int
  rate : Int
def opCells (o : OpD) : List Value := [.int .i64 o.kind, .int .i64 o.frm, .int .i64 o.ago, .int .i64 o.later, .int .u64 o.rate]
theorem opCells_len (o : OpD) : (opCells o).length = 5 := rfl
def Ops (w : World) (v : Value) (l : List OpD) : Prop := Reads w 5 v l.length (l.flatMap opCells)
theorem Ops.at {w : World} {v : Value} {x : List OpD} (h : Ops w v x) {k : Nat} {a : OpD} (hk : x[k]? = some a) : ∃ g p c, v = .slice (some ⟨g, p, none⟩) x.length c ∧ w.cell? ⟨g, p + k * 5, none⟩ = some (.int .i64 a.kind) ∧ w.cell? ⟨g, p + k * 5 + 1, none⟩ = some (.int .i64 a.frm) ∧ w.cell? ⟨g, p + k * 5 + 2, none⟩ = some (.int .i64 a.ago) ∧ w.cell? ⟨g, p + k * 5 + 3, none⟩ = some (.int .i64 a.later) ∧ w.cell? ⟨g, p + k * 5 + 4, none⟩ = some (.int .u64 a.rate) := by
  obtain ⟨g, p, c, he, hc⟩ := Reads.elem h opCells_len (by omega) hk
  exact ⟨g, p, c, he, hc 0 _ rfl, hc 1 _ rfl, hc 2 _ rfl, hc 3 _ rfl, hc 4 _ rfl⟩

def lat (now b : Int) : Int := now + min (max b 0) 1000
theorem later_any (now b : Int) (w : World) (h0 : 0 ≤ now) (h1 : now ≤ 100000) :
    Calls Try.prog 9 #[.int .i64 now, .int .i64 b] w fun e w' => e = .returned (.int .i64 (lat now b)) ∧ w = w' := by
  unfold lat
  rcases (by omega : b < 0 ∨ (0 ≤ b ∧ b ≤ 1000) ∨ 1000 < b) with h | ⟨h, h'⟩ | h
  · rw [show now + min (max b 0) 1000 = now by omega]
    go_enter Try.func9, Try.ntmps9
    go_wp2
    go_ret
    exact ⟨rfl, rfl⟩
  · rw [show now + min (max b 0) 1000 = now + b by omega]
    go_enter Try.func9, Try.ntmps9
    go_wp2
    go_ret
    exact ⟨rfl, rfl⟩
  · rw [show now + min (max b 0) 1000 = now + 1000 by omega]
    go_enter Try.func9, Try.ntmps9
    go_wp2
    go_ret
    exact ⟨rfl, rfl⟩

theorem clrHolds_no (lim : Int) (A : Option Addr) (n c : Nat) (w : World) (h : 80 < n ∨ lim < 1 ∨ 1048576 < lim) :
    Calls Try.prog 3 #[.int .i64 lim, .slice A n c] w fun e w' => e = .returned (.bool true) ∧ Below w.heap.size w w' := by
  rcases (by omega : 80 < n ∨ (n ≤ 80 ∧ lim < 1) ∨ (n ≤ 80 ∧ 1 ≤ lim ∧ 1048576 < lim)) with g | ⟨g, g'⟩ | ⟨g, g', g''⟩
  all_goals
    clear h
    go_enter Try.func3, Try.ntmps3
    go_wp2_with fail
    refine (awake_any _).mono ?_
    rintro e w2 ⟨rfl, hb2⟩
    go_wp2
    go_ret
    exact ⟨rfl, hb2⟩

theorem lat_bd {now b : Int} : now ≤ lat now b ∧ lat now b ≤ now + 1000 := by unfold lat; omega
/-- what the switch meets -/
theorem after_lk {l l' : List Told} {c : Int} {t : Told} (hl : ∀ r, lk l' r = if r = t.frm then some t else lk l r) :
    lk l' (tkC l c t) = if (lk l c).isSome = false ∨ c = t.frm ∨ t.rate < (gotV (lk l c)).rate then some t else lk l c := by
  by_cases g : (lk l c).isSome = false ∨ t.rate < (gotV (lk l c)).rate
  · have e : tkC l c t = t.frm := if_pos g
    rw [e, hl, if_pos rfl, if_pos (g.imp id .inr)]
  · have e : tkC l c t = c := if_neg g
    rw [e, hl]
    by_cases g3 : c = t.frm
    · rw [if_pos g3, if_pos (.inr (.inl g3))]
    · rw [if_neg g3, if_neg]
      rintro (h | h | h)
      · exact g (.inl h)
      · exact g3 h
      · exact g (.inr h)
theorem lk_frm {l : List Told} {c : Int} (h : (lk l c).isSome = true) : (gotV (lk l c)).frm = c := by
  cases e : lk l c with
  | none => rw [e] at h; cases h
  | some o => have := List.find?_some e; simpa [gotV] using this

structure At (w0 w : World) (b : Nat) (v : Value) (l : List Told) (lim c : Int) (A : Option Addr) (ops : List OpD) (cc : Nat) : Prop where
  bk : BkAt w b v l lim c
  own : ∀ g, v.ownBlock = some g → w0.heap.size ≤ g
  bel : Below w0.heap.size w0 w
  ops : Ops w (.slice A ops.length cc) ops
  lo : w0.heap.size ≤ b
theorem At.below {w0 w w' : World} {b : Nat} {v : Value} {l : List Told} {lim c : Int} {A : Option Addr} {ops : List OpD} {cc : Nat} (h : At w0 w b v l lim c A ops cc) (hb : Below w.heap.size w w') : At w0 w' b v l lim c A ops cc :=
  ⟨h.bk.below hb, h.own, bmore h.bel hb h.bel.size, Reads.below h.ops hb, h.lo⟩
theorem At.take {w0 w w' : World} {b : Nat} {v : Value} {l : List Told} {lim c c' : Int} {t : Told} {A : Option Addr} {ops : List OpD} {cc : Nat} (h : At w0 w b v l lim c A ops cc) (hx : Ops w0 (.slice A ops.length cc) ops) (k : Tk w w' b v l lim c' t) :
    ∃ v' l', At w0 w' b v' l' lim c' A ops cc ∧ (∀ r, lk l' r = if r = t.frm then some t else lk l r) ∧ l'.length ≤ l.length + 1 := by
  obtain ⟨⟨v', l', h1, h2, h3, h4⟩, hk⟩ := k
  have hb : Below w0.heap.size w0 w' := bkeep h.bel hk (Nat.le_refl _) (fun k hk => hk.elim (fun e => e ▸ h.lo) (h.own k))
  exact ⟨v', l', ⟨h1, fun g hg => (h4 g hg).elim (h.own g) (fun x => Nat.le_trans h.bel.size x), hb, Reads.below hx hb, h.lo⟩, h2, by rw [h3]; split <;> omega⟩

set_option maxRecDepth 100000 in
set_option maxHeartbeats 2000000 in
theorem clrHolds_yes (lim : Int) (A : Option Addr) (cc : Nat) (ops : List OpD) (w : World) (hx : Ops w (.slice A ops.length cc) ops) (hn : ops.length ≤ 80) (h1 : 1 ≤ lim) (h2 : lim ≤ 1048576) :
    Calls Try.prog 3 #[.int .i64 lim, .slice A ops.length cc] w fun e w' => e = .returned (.bool true) ∧ Below w.heap.size w w' := by
  have HNW := Lib.hid (new_ok lim w h1 h2)
  have HTK := Lib.hid @take_ok
  have HTN := Lib.hid @take_no
  have HCL := Lib.hid @clr_any
  have HLT := Lib.hid @later_any
  have HX : Hid (Ops w (.slice A ops.length cc) ops) := hx
  clear hx
  obtain ⟨n, hnl⟩ : ∃ n, n = ops.length := ⟨_, rfl⟩
  have HNL := Lib.hid hnl
  rw [← hnl] at hn
  rw [← hnl]
  clear hnl
  go_enter Try.func3, Try.ntmps3
  go_wp2_with fail
  refine HNW.out.mono ?_
  rintro e w1 ⟨b, v0, rfl, hk0, hlo, hv0, hb1⟩
  have H0 : Hid (At w w1 b v0 [] lim (-1) A ops cc) := ⟨hk0, hv0, hb1, Reads.below HX.out hb1, hlo⟩
  clear hk0 hlo hv0 hb1
  go_wp2_with fail
  go_loopw [7, 9, 10, 11, 12, 13, 39] (fun nw _ _ _ _ _ i wr => ∃ k : Nat, k ≤ n ∧ i = .int .i64 k ∧ ∃ now : Int, nw = .int .i64 now ∧ 0 ≤ now ∧ now ≤ 1000 * k ∧ ∃ v l c, Hid (At w wr b v l lim c A ops cc) ∧ l.length ≤ k) (fun _ _ _ _ _ _ i _ => n - (intOf i).toNat)
  case atStart => exact ⟨0, by omega, rfl, 0, rfl, by omega, by omega, v0, [], -1, H0, Nat.le_refl _⟩
  case round =>
    obtain ⟨k, hk, rfl, now, rfl, w1, w2, v, l, c, HA, hl⟩ := hrel
    by_cases hlt : k < n
    · obtain ⟨o, ho⟩ : ∃ o, ops[k]? = some o := ⟨_, List.getElem?_eq_getElem (by rw [← HNL.out]; exact hlt)⟩
      obtain ⟨g, p, c0, he, x0, x1, x2, x3, x4⟩ := HA.out.ops.at ho
      cases he
      have i1 : (0 : Int) ≤ (k : Int) := by omega
      have i2 : (k : Int) < (n : Int) := by omega
      have hlt' := HLT.out now o.later
      obtain ⟨n1, n2'⟩ := lat_bd (now := now) (b := o.later)
      generalize lat now o.later = nw at *
      have n2 : nw ≤ 1000 * ((k + 1 : Nat) : Int) := by omega
      have n1 : 0 ≤ nw := by omega
      have HLL := Lib.hid hlt'
      have HBo := Lib.hid (Blk.new wr #[.int .i64 o.kind, .int .i64 o.frm, .int .i64 o.ago, .int .i64 o.later, .int .u64 o.rate] 31)
      have HA1 := Lib.hid (HA.out.below ((Below.refl _ _).alloc (Nat.le_refl _) (.cells #[.int .i64 o.kind, .int .i64 o.frm, .int .i64 o.ago, .int .i64 o.later, .int .u64 o.rate] 31)))
      clear hlt' n2'
      go_wp2_with fail
      refine (HLL.out _ w1 (by omega)).mono ?_
      rintro e w1' ⟨rfl, rfl⟩
      go_wp2_with fail
      cases hs : (lk l c).isSome
      · have hC1 := HCL.out b v l lim c _ HA1.out.bk (by omega)
        rw [hs] at hC1
        have hfr := lk_frm (l := l) (c := c)
        obtain ⟨o1, ho1⟩ : ∃ o1, o1 = gotV (lk l c) := ⟨_, rfl⟩
        rw [← ho1] at hC1 hfr
        have HO1 := Lib.hid ho1
        have HFR := Lib.hid hfr
        clear ho1 hfr
        refine hC1.mono ?_
        rintro e w2 ⟨rfl, hb2⟩
        have HB2 := HBo.out.below hb2
        have H2 := Lib.hid (HA1.out.below hb2)
        obtain ⟨q0, q1, q2, q3, q4⟩ := blk5 HB2
        have HO2 := Lib.hid HB2
        have HT3 := Lib.hid (Blk.new w2 #[.int .i64 o1.frm, .int .i64 o1.tick, .int .u64 o1.rate] 34)
        have HO3 := Lib.hid (HB2.alloc (.cells #[.int .i64 o1.frm, .int .i64 o1.tick, .int .u64 o1.rate] 34))
        have H3 := Lib.hid (H2.out.below ((Below.refl _ _).alloc (Nat.le_refl _) (.cells #[.int .i64 o1.frm, .int .i64 o1.tick, .int .u64 o1.rate] 34)))
        have lt2 : wr.heap.size < w2.heap.size := HB2.lt
        clear hC1 hb2 HB2
        go_wp2_with fail
        by_cases hm : mayE l lim ⟨o.frm, nw, o.rate⟩ nw = 0
        · refine (HTK.out b v l lim c nw ⟨o.frm, nw, o.rate⟩ _ H3.out.bk (by omega) hm).mono ?_
          rintro e w4 ⟨rfl, htk⟩
          have HT4 := Lib.hid (HT3.out.keep htk.kp (fun h => h.elim (fun e => by have := H2.out.bk.str.lt; omega) (fun e => by have := (H2.out.bk.ne e).2; omega)))
          have HO4 := Lib.hid (HO3.out.keep htk.kp (fun h => h.elim (fun e => by have := HA.out.bk.str.lt; omega) (fun e => by have := (HA.out.bk.ne e).2; omega)))
          obtain ⟨v', l', h4, hlk4, hln4⟩ := H3.out.take HX.out htk
          have H4 := Lib.hid h4
          have HLK := Lib.hid hlk4
          clear htk h4 hlk4 q0 q1 q2 q3 q4
          go_wp2_with fail
          have hal := after_lk (l := l) (c := c) (t := ⟨o.frm, nw, o.rate⟩) HLK.out
          have hC2 := HCL.out b v' l' lim _ w4 H4.out.bk (by omega)
          rw [hal, if_pos (.inl hs)] at hC2
          have eg : gotV (some (⟨o.frm, nw, o.rate⟩ : Told)) = ⟨o.frm, nw, o.rate⟩ := rfl
          rw [eg] at hC2
          refine hC2.mono ?_
          rintro e w5 ⟨rfl, hb5⟩
          have HO5 := HO4.out.below hb5
          have HT5 := HT4.out.below hb5
          obtain ⟨q0, q1, q2, q3, q4⟩ := blk5 HO5
          obtain ⟨r0, r1, r2⟩ := blk3 HT5
          have H5 := Lib.hid (H4.out.below hb5)
          have ht1 := HO5.lt
          have ht2 := HT5.lt
          have ht3 := (Hid.out H5).bk.str.lt
          clear hal hC2 hb5 HO5 HT5
          have t1 : (o.frm != o.frm) = false := by simp
          go_wp2_with fail
          go_roundw
          case rel => exact ⟨k + 1, by omega, by go_num, nw, rfl, n1, n2, v', l', _, Lib.hid ((Hid.out H5).below ((Below.refl _ _).alloc (Nat.le_refl _) _)), by omega⟩
          case measure => simp [intOf]; omega
        · have hq := HTN.out b v l lim c nw ⟨o.frm, nw, o.rate⟩ _ H3.out.bk (by omega) hm
          generalize mayE l lim ⟨o.frm, nw, o.rate⟩ nw = m at *
          refine hq.mono ?_
          rintro e w4 ⟨rfl, hb4⟩
          have H4 := Lib.hid (H3.out.below hb4)
          clear hb4 hq q0 q1 q2 q3 q4
          go_wp2_with fail
          go_roundw
          case rel => exact ⟨k + 1, by omega, by go_num, nw, rfl, n1, n2, v, l, c, H4, by omega⟩
          case measure => simp [intOf]; omega
      · have hC1 := HCL.out b v l lim c _ HA1.out.bk (by omega)
        rw [hs] at hC1
        have hfr := lk_frm (l := l) (c := c)
        obtain ⟨o1, ho1⟩ : ∃ o1, o1 = gotV (lk l c) := ⟨_, rfl⟩
        rw [← ho1] at hC1 hfr
        have HO1 := Lib.hid ho1
        have HFR := Lib.hid hfr
        clear ho1 hfr
        refine hC1.mono ?_
        rintro e w2 ⟨rfl, hb2⟩
        have HB2 := HBo.out.below hb2
        have H2 := Lib.hid (HA1.out.below hb2)
        obtain ⟨q0, q1, q2, q3, q4⟩ := blk5 HB2
        have HO2 := Lib.hid HB2
        have HT3 := Lib.hid (Blk.new w2 #[.int .i64 o1.frm, .int .i64 o1.tick, .int .u64 o1.rate] 34)
        have HO3 := Lib.hid (HB2.alloc (.cells #[.int .i64 o1.frm, .int .i64 o1.tick, .int .u64 o1.rate] 34))
        have H3 := Lib.hid (H2.out.below ((Below.refl _ _).alloc (Nat.le_refl _) (.cells #[.int .i64 o1.frm, .int .i64 o1.tick, .int .u64 o1.rate] 34)))
        have lt2 : wr.heap.size < w2.heap.size := HB2.lt
        clear hC1 hb2 HB2
        go_wp2_with fail
        by_cases hm : mayE l lim ⟨o.frm, nw, o.rate⟩ nw = 0
        · refine (HTK.out b v l lim c nw ⟨o.frm, nw, o.rate⟩ _ H3.out.bk (by omega) hm).mono ?_
          rintro e w4 ⟨rfl, htk⟩
          have HT4 := Lib.hid (HT3.out.keep htk.kp (fun h => h.elim (fun e => by have := H2.out.bk.str.lt; omega) (fun e => by have := (H2.out.bk.ne e).2; omega)))
          have HO4 := Lib.hid (HO3.out.keep htk.kp (fun h => h.elim (fun e => by have := HA.out.bk.str.lt; omega) (fun e => by have := (HA.out.bk.ne e).2; omega)))
          obtain ⟨v', l', h4, hlk4, hln4⟩ := H3.out.take HX.out htk
          have H4 := Lib.hid h4
          have HLK := Lib.hid hlk4
          clear htk h4 hlk4 q0 q1 q2 q3 q4
          go_wp2_with fail
          by_cases g2 : c = o.frm
          · have hfo : o1.frm = o.frm := (HFR.out hs).trans g2
            have hal := after_lk (l := l) (c := c) (t := ⟨o.frm, nw, o.rate⟩) HLK.out
            have hC2 := HCL.out b v' l' lim _ w4 H4.out.bk (by omega)
            rw [hal, if_pos (.inr (.inl g2))] at hC2
            have eg : gotV (some (⟨o.frm, nw, o.rate⟩ : Told)) = ⟨o.frm, nw, o.rate⟩ := rfl
            rw [eg] at hC2
            refine hC2.mono ?_
            rintro e w5 ⟨rfl, hb5⟩
            have HO5 := HO4.out.below hb5
            have HT5 := HT4.out.below hb5
            obtain ⟨q0, q1, q2, q3, q4⟩ := blk5 HO5
            obtain ⟨r0, r1, r2⟩ := blk3 HT5
            have H5 := Lib.hid (H4.out.below hb5)
            have ht1 := HO5.lt
            have ht2 := HT5.lt
            have ht3 := (Hid.out H5).bk.str.lt
            clear hal hC2 hb5 HO5 HT5
            rw [hfo] at r0
            have t1 : (o.frm != o.frm) = false := by simp
            go_wp2_with fail
            go_roundw
            case rel => exact ⟨k + 1, by omega, by go_num, nw, rfl, n1, n2, v', l', _, Lib.hid ((Hid.out H5).below ((Below.refl _ _).alloc (Nat.le_refl _) _)), by omega⟩
            case measure => simp [intOf]; omega
          · have hfo : o1.frm = c := HFR.out hs
            by_cases g3 : o.rate < o1.rate
            · have g4 := g3
              rw [HO1.out] at g4
              have hal := after_lk (l := l) (c := c) (t := ⟨o.frm, nw, o.rate⟩) HLK.out
              have hC2 := HCL.out b v' l' lim _ w4 H4.out.bk (by omega)
              rw [hal, if_pos (.inr (.inr g4))] at hC2
              have eg : gotV (some (⟨o.frm, nw, o.rate⟩ : Told)) = ⟨o.frm, nw, o.rate⟩ := rfl
              rw [eg] at hC2
              refine hC2.mono ?_
              rintro e w5 ⟨rfl, hb5⟩
              have HO5 := HO4.out.below hb5
              have HT5 := HT4.out.below hb5
              obtain ⟨q0, q1, q2, q3, q4⟩ := blk5 HO5
              obtain ⟨r0, r1, r2⟩ := blk3 HT5
              have H5 := Lib.hid (H4.out.below hb5)
              have ht1 := HO5.lt
              have ht2 := HT5.lt
              have ht3 := (Hid.out H5).bk.str.lt
              clear hal hC2 hb5 HO5 HT5
              rw [hfo] at r0
              have t1 : (o.frm != o.frm) = false := by simp
              have t2 : (o.frm != c) = true := by simp; omega
              have t3 : o.frm ≠ c := fun e => g2 e.symm
              go_wp2_with fail
              go_roundw
              case rel => exact ⟨k + 1, by omega, by go_num, nw, rfl, n1, n2, v', l', _, Lib.hid ((Hid.out H5).below ((Below.refl _ _).alloc (Nat.le_refl _) _)), by omega⟩
              case measure => simp [intOf]; omega
            · have g4 := g3
              rw [HO1.out] at g4
              have hneg : ¬ ((lk l c).isSome = false ∨ c = o.frm ∨ o.rate < (gotV (lk l c)).rate) := fun h => h.elim (fun h => by rw [hs] at h; cases h) (fun h => h.elim g2 g4)
              have hal := after_lk (l := l) (c := c) (t := ⟨o.frm, nw, o.rate⟩) HLK.out
              have hC2 := HCL.out b v' l' lim _ w4 H4.out.bk (by omega)
              rw [hal, if_neg hneg, hs, ← HO1.out] at hC2
              refine hC2.mono ?_
              rintro e w5 ⟨rfl, hb5⟩
              have HO5 := HO4.out.below hb5
              have HT5 := HT4.out.below hb5
              obtain ⟨q0, q1, q2, q3, q4⟩ := blk5 HO5
              obtain ⟨r0, r1, r2⟩ := blk3 HT5
              have H5 := Lib.hid (H4.out.below hb5)
              have ht1 := HO5.lt
              have ht2 := HT5.lt
              have ht3 := (Hid.out H5).bk.str.lt
              clear hal hC2 hb5 HO5 HT5
              rw [hfo] at r0
              have t2 : (o.frm != c) = true := by simp; omega
              have t3 : o.frm ≠ c := fun e => g2 e.symm
              have g5 : o1.rate ≤ o.rate := by omega
              go_wp2_with fail
              go_roundw
              case rel => exact ⟨k + 1, by omega, by go_num, nw, rfl, n1, n2, v', l', _, Lib.hid ((Hid.out H5).below ((Below.refl _ _).alloc (Nat.le_refl _) _)), by omega⟩
              case measure => simp [intOf]; omega
        · have hq := HTN.out b v l lim c nw ⟨o.frm, nw, o.rate⟩ _ H3.out.bk (by omega) hm
          generalize mayE l lim ⟨o.frm, nw, o.rate⟩ nw = m at *
          refine hq.mono ?_
          rintro e w4 ⟨rfl, hb4⟩
          have H4 := Lib.hid (H3.out.below hb4)
          clear hb4 hq q0 q1 q2 q3 q4
          go_wp2_with fail
          go_roundw
          case rel => exact ⟨k + 1, by omega, by go_num, nw, rfl, n1, n2, v, l, c, H4, by omega⟩
          case measure => simp [intOf]; omega
    · obtain rfl : k = n := by omega
      go_wp2_with fail
      refine (awake_any _).mono ?_
      rintro e w3 ⟨rfl, hb3⟩
      have hq := bmore HA.out.bel hb3 HA.out.bel.size
      go_wp2
      go_ret
      exact ⟨rfl, hq⟩
end Go.Proofs.Ythnnhagccemnnaa
