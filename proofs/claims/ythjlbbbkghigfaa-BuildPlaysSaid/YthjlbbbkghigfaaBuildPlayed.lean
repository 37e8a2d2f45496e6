/- build: the law's step: a call of Put. -/
import Derived.Test.YthjlbbbkghigfaaBuildRefs
namespace Go.Proofs.Ythjlbbbkghigfaa
open Go.RowKit
set_option linter.unusedVariables false
set_option linter.unusedSimpArgs false

theorem boxes3 (w : World) (a b c : Array Value) (T T' T'' : TypeId) : ∃ wz, wz = ((w.alloc (.cells a T)).alloc (.cells b T')).alloc (.cells c T'') ∧ Hid (Blk wz w.heap.size a T) ∧ Hid (Blk wz (w.heap.size + 1) b T') ∧ Hid (Blk wz (w.heap.size + 2) c T'') ∧ Hid (Below w.heap.size w wz) ∧ Hid (wz.heap.size = w.heap.size + 3) := by
  have z1 : (w.alloc (.cells a T)).heap.size = w.heap.size + 1 := by simp
  have z2 : ((w.alloc (.cells a T)).alloc (.cells b T')).heap.size = w.heap.size + 2 := by simp
  have h1 := Blk.new w a T
  have h2 := Blk.new (w.alloc (.cells a T)) b T'
  have h3 := Blk.new ((w.alloc (.cells a T)).alloc (.cells b T')) c T''
  rw [z1] at h2
  rw [z2] at h3
  have k1 : Below w.heap.size w (w.alloc (.cells a T)) := (Below.refl _ w).alloc (Nat.le_refl _) _
  have k2 : Below (w.alloc (.cells a T)).heap.size (w.alloc (.cells a T)) ((w.alloc (.cells a T)).alloc (.cells b T')) := (Below.refl _ _).alloc (Nat.le_refl _) _
  have k3 : Below ((w.alloc (.cells a T)).alloc (.cells b T')).heap.size ((w.alloc (.cells a T)).alloc (.cells b T')) (((w.alloc (.cells a T)).alloc (.cells b T')).alloc (.cells c T'')) := (Below.refl _ _).alloc (Nat.le_refl _) _
  exact ⟨_, rfl, (h1.below k2).below k3, h2.below k3, h3, bmore (bmore k1 k2 k1.size) k3 (Nat.le_trans k1.size k2.size), by show _ = _; simp⟩
/-- Put of the reference, in each case -/
theorem refput_any (x : BuS) (block tick : Int) (A : Option Addr) (c : Nat) (tv : Value) (tx : List Int) (w : World) (hp : PlanOk x.s x.k x.n) (hT : TextOk x) (hr : Reads w 1 (.slice A x.s c) x.s ((refB x).map (Value.int .i64))) (ht : Reads w 1 tv tx.length (tx.map (Value.int .u8))) (hby : ∀ b ∈ tx, 0 ≤ b ∧ b < 256) :
    Calls Try.prog 38 #[.agg #[.int .i64 x.s, .int .i64 x.k, .int .i64 x.n, .slice A x.s c, .bool x.ov], .int .i64 block, tv, .int .i64 tick] w fun e w' => ∃ A' c', e = .returned (.tuple #[.agg #[.int .i64 x.s, .int .i64 x.k, .int .i64 x.n, .slice A' x.s c', .bool x.ov], .int .i64 (putE x block tick tx.length)]) ∧ Reads w' 1 (.slice A' x.s c') x.s ((refP x block tick tx).map (Value.int .i64)) ∧ (∀ g, (Value.slice A' x.s c').ownBlock = some g → (Value.slice A x.s c).ownBlock = some g ∨ (w.heap.size ≤ g ∧ g < w'.heap.size)) ∧ Below w.heap.size w w' := by
  obtain ⟨B, d, rfl, -⟩ := ht.val
  have hk := hp.2.1
  have hsame : ∀ (v : Int), putE x block tick tx.length = v → v ≠ 0 → ∀ (e : Ending) (w' : World), (e = .returned (.tuple #[.agg #[.int .i64 x.s, .int .i64 x.k, .int .i64 x.n, .slice A x.s c, .bool x.ov], .int .i64 v]) ∧ Below w.heap.size w w') → ∃ A' c', e = .returned (.tuple #[.agg #[.int .i64 x.s, .int .i64 x.k, .int .i64 x.n, .slice A' x.s c', .bool x.ov], .int .i64 (putE x block tick tx.length)]) ∧ Reads w' 1 (.slice A' x.s c') x.s ((refP x block tick tx).map (Value.int .i64)) ∧ (∀ g, (Value.slice A' x.s c').ownBlock = some g → (Value.slice A x.s c).ownBlock = some g ∨ (w.heap.size ≤ g ∧ g < w'.heap.size)) ∧ Below w.heap.size w w' := by
    intro v hv hv0 e w' ⟨he, hb⟩
    refine ⟨A, c, by rw [hv]; exact he, ?_, fun g hg => .inl hg, hb⟩
    unfold refP
    rw [hv, if_neg hv0]
    exact hr.below hb
  by_cases h1 : x.ov = true
  · have hv : putE x block tick tx.length = 24 := by unfold putE; rw [if_pos h1]
    have hc := refput_over x.s x.k x.n block tick A c (.slice B tx.length d) w
    rw [← h1] at hc
    exact hc.mono (hsame 24 hv (by decide))
  · have h1' : x.ov = false := by simpa using h1
    by_cases h2 : ¬ (0 ≤ block ∧ block < nb x.s x.k) ∨ tick < 0 ∨ 1099511627776 < tick
    · have hv : putE x block tick tx.length = 11 := by unfold putE; rw [if_neg h1, if_pos h2]
      have hc := refput_out x.s x.k x.n block tick A c (.slice B tx.length d) w hp h2
      rw [← h1'] at hc
      exact hc.mono (hsame 11 hv (by decide))
    · obtain ⟨i, rfl⟩ : ∃ i : Nat, block = i := ⟨block.toNat, by omega⟩
      have hi : i < nb x.s x.k := by omega
      have e1 : (i : Int) * x.k = ((i * x.k : Nat) : Int) := (Int.natCast_mul _ _).symm
      have his := (nb_lt (s := x.s) (i := i) hk).1 hi
      by_cases h3 : (tx.length : Int) ≠ min ((i * x.k + x.k : Nat) : Int) x.s - ((i * x.k : Nat) : Int)
      · have hv : putE x (i : Int) tick tx.length = 10 := by unfold putE; rw [if_neg h1, if_neg h2, e1, if_pos (by omega)]
        have hc := refput_len x.s x.k x.n i tx.length tick A B c d w hp hi (by omega) h3
        rw [← h1'] at hc
        exact hc.mono (hsame 10 hv (by decide))
      · have h3' : (tx.length : Int) = min ((i * x.k + x.k : Nat) : Int) x.s - ((i * x.k : Nat) : Int) := by omega
        have hu := refB_get his
        rw [Nat.mul_div_cancel _ (by omega)] at hu
        by_cases h4 : cov x.L (i : Int) = true
        · have hv : putE x (i : Int) tick tx.length = 13 := by unfold putE; rw [if_neg h1, if_neg h2, e1, if_neg (by omega), if_pos h4]
          rw [if_pos h4] at hu
          have hc := refput_twice x.s x.k x.n i tx.length tick _ (refB x) A B c d w hp hi (by omega) h3' hr hu (hT.pos _ his).1
          rw [← h1'] at hc
          exact hc.mono (hsame 13 hv (by decide))
        · have hv : putE x (i : Int) tick tx.length = 0 := by unfold putE; rw [if_neg h1, if_neg h2, e1, if_neg (by omega), if_neg h4]
          rw [if_neg h4] at hu
          have hc := refput_ok x.s x.k x.n i tx.length tick _ (refB x) tx A B c d w hp hi (by omega) h3' hr hu (by decide) (refB_len x) ht rfl hby
          rw [← h1'] at hc
          refine hc.mono ?_
          rintro e w' ⟨A', c', rfl, ho, hb⟩
          refine ⟨A', c', by rw [hv], ?_, fun g hg => .inr (own_lt ho hg), hb⟩
          unfold refP
          rw [if_pos hv, Int.toNat_natCast]
          exact Reads.of_owns ho
/-- what lies in a cell -/
def valAt (p : Addr) (W : World) : Value := (W.cell? p).getD undef
theorem valAt_of {p : Addr} {W : World} {u : Value} (h : W.cell? p = some u) : W.cell? p = some (valAt p W) := by unfold valAt; rw [h]; rfl
/-- what step's region holds: the call's arguments, the state that was told, the box of the result -/
def RgS (p5 p6 p8 : Nat) (a b c u0 u1 u2 u3 u4 : Value) (w : World) : Prop := w.cell? ⟨p5, 1, none⟩ = some a ∧ w.cell? ⟨p5, 3, none⟩ = some b ∧ w.cell? ⟨p5, 2, none⟩ = some c ∧ w.cell? ⟨p8, 0, none⟩ = some u0 ∧ w.cell? ⟨p8, 1, none⟩ = some u1 ∧ w.cell? ⟨p8, 2, none⟩ = some u2 ∧ w.cell? ⟨p8, 3, none⟩ = some u3 ∧ w.cell? ⟨p8, 4, none⟩ = some u4 ∧ w.cell? ⟨p6, 0, none⟩ = some (valAt ⟨p6, 0, none⟩ w) ∧ w.cell? ⟨p6, 1, none⟩ = some (valAt ⟨p6, 1, none⟩ w) ∧ w.cell? ⟨p6, 2, none⟩ = some (valAt ⟨p6, 2, none⟩ w) ∧ w.cell? ⟨p6, 3, none⟩ = some (valAt ⟨p6, 3, none⟩ w) ∧ w.cell? ⟨p6, 4, none⟩ = some (valAt ⟨p6, 4, none⟩ w) ∧ w.frozen? ⟨p6, 0, none⟩ = false ∧ w.frozen? ⟨p6, 1, none⟩ = false ∧ w.frozen? ⟨p6, 2, none⟩ = false ∧ w.frozen? ⟨p6, 3, none⟩ = false ∧ w.frozen? ⟨p6, 4, none⟩ = false
theorem RgS.keep {p5 p6 p8 : Nat} {a b c u0 u1 u2 u3 u4 : Value} {S : Nat → Prop} {w w' : World} (h : RgS p5 p6 p8 a b c u0 u1 u2 u3 u4 w) (hk : Keep S w w') (h5 : ¬ S p5) (h6 : ¬ S p6) (h8 : ¬ S p8) : RgS p5 p6 p8 a b c u0 u1 u2 u3 u4 w' := by
  obtain ⟨a1, a2, a3, b0, b1, b2, b3, b4, c0, c1, c2, c3, c4, f0, f1, f2, f3, f4⟩ := h
  have l5 := World.block_lt_of_cell? _ _ a1
  have l6 := World.block_lt_of_cell? _ _ c0
  have l8 := World.block_lt_of_cell? _ _ b0
  exact ⟨(hk.cell (p := ⟨p5, 1, none⟩) l5 h5).trans a1, (hk.cell (p := ⟨p5, 3, none⟩) l5 h5).trans a2, (hk.cell (p := ⟨p5, 2, none⟩) l5 h5).trans a3, (hk.cell (p := ⟨p8, 0, none⟩) l8 h8).trans b0, (hk.cell (p := ⟨p8, 1, none⟩) l8 h8).trans b1, (hk.cell (p := ⟨p8, 2, none⟩) l8 h8).trans b2, (hk.cell (p := ⟨p8, 3, none⟩) l8 h8).trans b3, (hk.cell (p := ⟨p8, 4, none⟩) l8 h8).trans b4, valAt_of ((hk.cell (p := ⟨p6, 0, none⟩) l6 h6).trans c0), valAt_of ((hk.cell (p := ⟨p6, 1, none⟩) l6 h6).trans c1), valAt_of ((hk.cell (p := ⟨p6, 2, none⟩) l6 h6).trans c2), valAt_of ((hk.cell (p := ⟨p6, 3, none⟩) l6 h6).trans c3), valAt_of ((hk.cell (p := ⟨p6, 4, none⟩) l6 h6).trans c4), (hk.frozen (p := ⟨p6, 0, none⟩) l6 h6).trans f0, (hk.frozen (p := ⟨p6, 1, none⟩) l6 h6).trans f1, (hk.frozen (p := ⟨p6, 2, none⟩) l6 h6).trans f2, (hk.frozen (p := ⟨p6, 3, none⟩) l6 h6).trans f3, (hk.frozen (p := ⟨p6, 4, none⟩) l6 h6).trans f4⟩
theorem RgS.set1 {p5 p6 p8 : Nat} {a b c u0 u1 u2 u3 u4 : Value} {w : World} (h : RgS p5 p6 p8 a b c u0 u1 u2 u3 u4 w) (h5 : ¬ p5 = p6) (h8 : ¬ p8 = p6) (o : Nat) (y : Value) : RgS p5 p6 p8 a b c u0 u1 u2 u3 u4 (w.setCell ⟨p6, o, none⟩ y) := by
  obtain ⟨a1, a2, a3, b0, b1, b2, b3, b4, c0, c1, c2, c3, c4, f0, f1, f2, f3, f4⟩ := h
  have hk := (Keep.refl (fun k => k = p6) w).setCell (p := ⟨p6, o, none⟩) (.inl rfl) y
  have l5 := World.block_lt_of_cell? _ _ a1
  have l6 := World.block_lt_of_cell? _ _ c0
  have l8 := World.block_lt_of_cell? _ _ b0
  have hc : ∀ q v, w.cell? ⟨p6, q, none⟩ = some v → (w.setCell ⟨p6, o, none⟩ y).cell? ⟨p6, q, none⟩ = some (valAt ⟨p6, q, none⟩ (w.setCell ⟨p6, o, none⟩ y)) := fun q v hv => by
    by_cases e : o = q
    · subst e
      exact valAt_of (World.cell?_setCell_same' _ _ _ (by rw [hv]; rfl))
    · exact valAt_of ((World.cell?_setCell_other _ _ _ _ (by intro h; cases h; exact e rfl)).trans hv)
  exact ⟨(hk.cell (p := ⟨p5, 1, none⟩) l5 h5).trans a1, (hk.cell (p := ⟨p5, 3, none⟩) l5 h5).trans a2, (hk.cell (p := ⟨p5, 2, none⟩) l5 h5).trans a3, (hk.cell (p := ⟨p8, 0, none⟩) l8 h8).trans b0, (hk.cell (p := ⟨p8, 1, none⟩) l8 h8).trans b1, (hk.cell (p := ⟨p8, 2, none⟩) l8 h8).trans b2, (hk.cell (p := ⟨p8, 3, none⟩) l8 h8).trans b3, (hk.cell (p := ⟨p8, 4, none⟩) l8 h8).trans b4, hc 0 _ c0, hc 1 _ c1, hc 2 _ c2, hc 3 _ c3, hc 4 _ c4, by rw [World.frozen?_setCell]; exact f0, by rw [World.frozen?_setCell]; exact f1, by rw [World.frozen?_setCell]; exact f2, by rw [World.frozen?_setCell]; exact f3, by rw [World.frozen?_setCell]; exact f4⟩
theorem RgS.set5 {p5 p6 p8 : Nat} {a b c u0 u1 u2 u3 u4 : Value} {w : World} (h : RgS p5 p6 p8 a b c u0 u1 u2 u3 u4 w) (h5 : ¬ p5 = p6) (h8 : ¬ p8 = p6) (y0 y1 y2 y3 y4 : Value) : RgS p5 p6 p8 a b c u0 u1 u2 u3 u4 (((((w.setCell ⟨p6, 0, none⟩ y0).setCell ⟨p6, 1, none⟩ y1).setCell ⟨p6, 2, none⟩ y2).setCell ⟨p6, 3, none⟩ y3).setCell ⟨p6, 4, none⟩ y4) :=
  ((((h.set1 h5 h8 0 y0).set1 h5 h8 1 y1).set1 h5 h8 2 y2).set1 h5 h8 3 y3).set1 h5 h8 4 y4
/-- what a call of both leaves -/
def StepR (W0 w w' : World) (e : Ending) (b s k n : Nat) (x : BuS) (A : Option Addr) (c : Nat) : Prop := ∃ x' A' c', e = .returned (.tuple #[.agg #[.int .i64 (s : Int), .int .i64 (k : Int), .int .i64 (n : Int), .slice A' s c', .bool x'.ov], .bool true]) ∧ Hid (StB W0 w' b s k n x') ∧ Hid (TextOk x') ∧ Hid (Reads w' 1 (.slice A' s c') s ((refB x').map (Value.int .i64))) ∧ Hid (DisW (.slice A' s c') x') ∧ Hid (∀ g, (Value.slice A' s c').ownBlock = some g → g < w'.heap.size) ∧ Hid (x'.log.length ≤ x.log.length + 1) ∧ Hid (Keep (BuSet x) w w') ∧ Hid (∀ q, BuSet x' q → BuSet x q ∨ w.heap.size ≤ q) ∧ Hid (x'.pb = x.pb) ∧ Hid (∀ g, (Value.slice A' s c').ownBlock = some g → (Value.slice A s c).ownBlock = some g ∨ w.heap.size ≤ g)
set_option maxRecDepth 100000 in
set_option maxHeartbeats 300000 in
theorem step_put (W0 : World) (b s k n : Nat) (x : BuS) (A : Option Addr) (c : Nat) (bk tk : Int) (tv : Value) (tx : List Int) (w : World) (hs : StB W0 w b s k n x) (hT : TextOk x) (hr : Reads w 1 (.slice A s c) s ((refB x).map (Value.int .i64))) (hd : DisW (.slice A s c) x) (hlt : ∀ g, (Value.slice A s c).ownBlock = some g → g < w.heap.size) (hin : OpIn W0 ⟨1, bk, tk, tv, tx⟩) (hll : x.log.length ≤ 1000) :
    Calls Try.prog 23 #[.pointer (some ⟨b, 0, none⟩), .agg #[.int .i64 s, .int .i64 k, .int .i64 n, .slice A s c, .bool x.ov], .agg #[.int .i64 1, .int .i64 bk, .int .i64 tk, tv]] w fun e w' => StepR W0 w w' e b s k n x A c := by
  obtain ⟨wz, hwz, HB4, HB5, HB6, HLZ, HZZ⟩ := boxes3 w #[.int .i64 s, .int .i64 k, .int .i64 n, .slice A s c, .bool x.ov] #[.int .i64 1, .int .i64 bk, .int .i64 tk, tv] #[.int .i64 0, .int .i64 0, .int .i64 0, .slice none 0 0, .bool false] 53 34 53
  have HWZ := Lib.hid hwz
  have hsz := hs.below HLZ.out
  have hrp := refput_any x bk tk A c tv tx wz (by have := hs.at_.ok; exact this) hT (by rw [hs.s_]; exact hr.below HLZ.out) ((hin.below hsz.bel).rd) hin.byt
  rw [hs.s_, hs.k_, hs.n_] at hrp
  obtain ⟨pe, hpe⟩ : ∃ pe, pe = putE x bk tk tx.length := ⟨_, rfl⟩
  have hpo0 := fun w (h : StB W0 w b s k n x) => put_op x ⟨1, bk, tk, tv, tx⟩ W0 w b s k n hin h (by omega)
  have hpo : ∀ w, StB W0 w b s k n x → Calls Try.prog 10 #[.pointer (some ⟨b, 0, none⟩), .int .i64 bk, tv, .int .i64 tk] w fun e w' => ∃ x', e = .returned (.int .i64 (putE x bk tk tx.length)) ∧ PutR x bk tk tx w w' x' := hpo0
  rw [← hpe] at hpo hrp
  have HPO := Lib.hid hpo
  have HRP := Lib.hid hrp
  have HSZ := Lib.hid hsz
  have HT := Lib.hid hT
  have HD := Lib.hid hd
  have HLT := Lib.hid hlt
  have HBY := Lib.hid hin.byt
  have HW0 := Lib.hid hs.bel.size
  have HBL := Lib.hid (fun q (e : BuSet x q) => BuSet.lt hs.at_ e)
  have HPB := Lib.hid ((hs.at_.lts).2.1)
  have hlz := HLZ.out.size
  have t1 : (pe == pe) = true := by simp
  clear hwz hsz hrp hpo hpo0 hs hT hr hd hlt hin hpe
  go_enter Try.func23, Try.ntmps23
  go_wp2_with fail
  rw [← HWZ.out]
  refine HRP.out.mono ?_
  rintro e w1 ⟨A1, c1, rfl, hr1, ho1, hb1⟩
  have HB51 := Lib.hid (HB5.out.below hb1)
  have HB61 := Lib.hid (HB6.out.below hb1)
  have HS1 := Lib.hid (HSZ.out.below hb1)
  have HR1 := Lib.hid hr1
  have HO1 := Lib.hid ho1
  have HBB1 := Lib.hid hb1
  obtain ⟨y0, y1, y2, y3⟩ := blk4 HB51.out
  have hl1 := HB61.out.lt
  clear hr1 ho1 hb1
  have hx8 := Blk.new w1 #[.int .i64 s, .int .i64 k, .int .i64 n, .slice A1 s c1, .bool x.ov] 53
  have hb8 : Below w1.heap.size w1 (w1.alloc (.cells #[.int .i64 s, .int .i64 k, .int .i64 n, .slice A1 s c1, .bool x.ov] 53)) := (Below.refl _ w1).alloc (Nat.le_refl _) _
  have HX8 := Lib.hid hx8
  have HB8 := Lib.hid hb8
  clear hx8 hb8
  go_wp2_with fail
  generalize w1.alloc (.cells #[.int .i64 s, .int .i64 k, .int .i64 n, .slice A1 s c1, .bool x.ov] 53) = w2 at *
  have HS2 := Lib.hid (HS1.out.below HB8.out)
  have HB52 := Lib.hid (HB51.out.below HB8.out)
  have HB62 := Lib.hid (HB61.out.below HB8.out)
  have HR2 := Lib.hid (HR1.out.below HB8.out)
  have hl2 := HX8.out.lt
  have hbw := HBB1.out.size
  have hzz := HZZ.out
  have HN : Hid (∀ q, w.heap.size ≤ q → ¬ BuSet x q) := fun q h e => absurd (HBL.out q e) (by omega)
  have n1 : w.heap.size + 1 < w2.heap.size := by omega
  have n2 : w.heap.size + 2 < w2.heap.size := by omega
  have n3 : ¬ w.heap.size + 2 = w1.heap.size := by omega
  have n4 : ¬ w1.heap.size = w.heap.size + 2 := by omega
  clear y0 y1 y2 y3 hbw hzz hlz
  obtain ⟨y0, y1, y2, y3⟩ := blk4 HB52.out
  obtain ⟨v0, v1, v2, v3, v4⟩ := blk5 HX8.out
  obtain ⟨u0, u1, u2, u3, u4⟩ := blk5 HB62.out
  have hX2 : RgS (w.heap.size + 1) (w.heap.size + 2) w1.heap.size (.int .i64 bk) tv (.int .i64 tk) (.int .i64 (s : Int)) (.int .i64 (k : Int)) (.int .i64 (n : Int)) (.slice A1 s c1) (.bool x.ov) w2.drew := ⟨y1, y3, y2, v0, v1, v2, v3, v4, valAt_of u0, valAt_of u1, valAt_of u2, valAt_of u3, valAt_of u4, HB62.out.frozen 0, HB62.out.frozen 1, HB62.out.frozen 2, HB62.out.frozen 3, HB62.out.frozen 4⟩
  clear y0 y1 y2 y3 v0 v1 v2 v3 v4 u0 u1 u2 u3 u4
  have m1 : ¬ w.heap.size + 1 = w.heap.size + 2 := by omega
  have hX2' := hX2
  unfold RgS at hX2
  go_region_held3 (fun w' => w'.cell? ⟨w.heap.size + 1, 1, none⟩ = some (.int .i64 bk) ∧ w'.cell? ⟨w.heap.size + 1, 3, none⟩ = some tv ∧ w'.cell? ⟨w.heap.size + 1, 2, none⟩ = some (.int .i64 tk) ∧ w'.cell? ⟨w1.heap.size, 0, none⟩ = some (.int .i64 (s : Int)) ∧ w'.cell? ⟨w1.heap.size, 1, none⟩ = some (.int .i64 (k : Int)) ∧ w'.cell? ⟨w1.heap.size, 2, none⟩ = some (.int .i64 (n : Int)) ∧ w'.cell? ⟨w1.heap.size, 3, none⟩ = some (.slice A1 s c1) ∧ w'.cell? ⟨w1.heap.size, 4, none⟩ = some (.bool x.ov) ∧ w'.cell? ⟨w.heap.size + 2, 0, none⟩ = some (valAt ⟨w.heap.size + 2, 0, none⟩ w') ∧ w'.cell? ⟨w.heap.size + 2, 1, none⟩ = some (valAt ⟨w.heap.size + 2, 1, none⟩ w') ∧ w'.cell? ⟨w.heap.size + 2, 2, none⟩ = some (valAt ⟨w.heap.size + 2, 2, none⟩ w') ∧ w'.cell? ⟨w.heap.size + 2, 3, none⟩ = some (valAt ⟨w.heap.size + 2, 3, none⟩ w') ∧ w'.cell? ⟨w.heap.size + 2, 4, none⟩ = some (valAt ⟨w.heap.size + 2, 4, none⟩ w') ∧ w'.frozen? ⟨w.heap.size + 2, 0, none⟩ = false ∧ w'.frozen? ⟨w.heap.size + 2, 1, none⟩ = false ∧ w'.frozen? ⟨w.heap.size + 2, 2, none⟩ = false ∧ w'.frozen? ⟨w.heap.size + 2, 3, none⟩ = false ∧ w'.frozen? ⟨w.heap.size + 2, 4, none⟩ = false)
    (first | with_reducible exact hX3 | with_reducible assumption | exact RgS.set5 HX3.out m1 n4 _ _ _ _ _)
    (first
      | (go_at_call 10; refine (HPO.out _ (HS2.out.below (below_drewN (Below.refl _ w2) 1))).mono ?_; rintro e w3 ⟨x', rfl, r⟩; have HPR := Lib.hid r; have HX3 := Lib.hid (RgS.keep hX2' r.keep (HN.out _ (by omega)) (HN.out _ (by omega)) (HN.out _ (by omega))); have hX3 := HX3.out; unfold RgS at hX3; clear r))
  have HSF := Lib.hid (((HS2.out.below (below_drewN (Below.refl _ w2) 1)).put HPR.out))
  have hsm := HPR.out.same
  have hle3 : w2.heap.size ≤ w3.heap.size := HPR.out.keep.size
  have hown : ∀ q, BuSet x' q → q < w.heap.size ∨ w2.heap.size ≤ q := fun q e => (HPR.out.own q e).imp (fun h => HBL.out q h) (fun h => h)
  have hsl : ∀ g, (Value.slice A1 s c1).ownBlock = some g → g < w1.heap.size ∧ ¬ g = w.heap.size + 2 ∧ ¬ BuSet x g ∧ ¬ BuSet x' g ∧ g ≠ x.pb := fun g hg => by
    have hz := HZZ.out
    have hpb := HPB.out
    have hbs := HBB1.out.size
    rcases HO1.out g hg with h | h
    · have h1 := HLT.out g h
      have h2 := HD.out g h
      exact ⟨by omega, by omega, h2.1, fun e => by rcases HPR.out.own g e with h | h; exact h2.1 h; (have : w2.heap.size ≤ g := h); omega, h2.2⟩
    · exact ⟨by omega, by omega, HN.out g (by omega), fun e => by rcases hown g e with h | h <;> omega, by omega⟩
  have HB63 := Lib.hid ((HB62.out.drewN 1).keep HPR.out.keep (HN.out _ (by omega)))
  have HTP := Lib.hid (HT.out.put (HS2.out.at_.ok.2.1) HPR.out HBY.out)
  have HKS := Lib.hid (keep_state (S := fun g => g = w.heap.size + 2) (.int .i64 s) (.int .i64 k) (.int .i64 n) (.slice A1 s c1) (.bool x.ov) (Keep.refl (fun g => g = w.heap.size + 2) w3) (b := w.heap.size + 2) (.inl rfl))
  have HF1 := Lib.hid (HSF.out.keep HKS.out (fun q e h => by rcases hown q e with h' | h' <;> omega) (fun h => by have := HPB.out; rw [hsm.2.1] at h; omega) (fun q h => by have := HW0.out; omega))
  have HF2 := Lib.hid (((HR2.out.drewN 1).keep HPR.out.keep (fun g hg _ => (hsl g hg).2.2.1)).keep HKS.out (fun g hg _ => (hsl g hg).2.1))
  rw [← HTP.out.2] at HF2
  have HF3 : Hid (DisW (.slice A1 s c1) x') := fun g hg => ⟨(hsl g hg).2.2.2.1, by rw [hsm.2.1]; exact (hsl g hg).2.2.2.2⟩
  have HF4 := Lib.hid (fun g hg => Nat.lt_of_lt_of_le (Nat.lt_of_lt_of_le (hsl g hg).1 (Nat.le_trans HB8.out.size hle3)) HKS.out.size)
  have HF5 := Lib.hid HPR.out.len
  have HOV := Lib.hid hsm.2.2.2.2.2.2
  have HPBX := Lib.hid hsm.2.1
  have hba : Below w.heap.size w w2.drew := below_drewN (bmore (bmore HLZ.out HBB1.out HLZ.out.size) HB8.out (Nat.le_trans HLZ.out.size HBB1.out.size)) 1
  have HF6 : Hid (Keep (BuSet x) w (((((w3.setCell ⟨w.heap.size + 2, 0, none⟩ (.int .i64 s)).setCell ⟨w.heap.size + 2, 1, none⟩ (.int .i64 k)).setCell ⟨w.heap.size + 2, 2, none⟩ (.int .i64 n)).setCell ⟨w.heap.size + 2, 3, none⟩ (.slice A1 s c1)).setCell ⟨w.heap.size + 2, 4, none⟩ (.bool x.ov))) := ((Keep.ofBelowAll (S := BuSet x) hba).trans HPR.out.keep (fun _ _ h => h)).trans HKS.out (fun q hq h => by omega)
  have HF7 : Hid (∀ q, BuSet x' q → BuSet x q ∨ w.heap.size ≤ q) := fun q e => (HPR.out.own q e).imp id (fun h => Nat.le_trans hba.size h)
  have HF8 : Hid (∀ g, (Value.slice A1 s c1).ownBlock = some g → (Value.slice A s c).ownBlock = some g ∨ w.heap.size ≤ g) := fun g hg => (HO1.out g hg).imp id (fun h => Nat.le_trans HLZ.out.size h.1)
  obtain ⟨a0, a1, a2, a3, a4⟩ := blk5 (set_state (.int .i64 s) (.int .i64 k) (.int .i64 n) (.slice A1 s c1) (.bool x.ov) HB63.out)
  have hl6 := HB63.out.lt
  clear hX3 hX2 hX2' hsm hle3 hown hsl hba
  go_wp2
  exact bodyPost_ret (v := .tuple #[.agg #[.int .i64 s, .int .i64 k, .int .i64 n, .slice A1 s c1, .bool x.ov], .bool true]) (by simp [results, Try.f23, go_sem, hl6, a0, a1, a2, a3, a4]) rfl ⟨x', A1, c1, by rw [HOV.out], HF1, HTP.out.1, HF2, HF3, HF4, HF5, HF6, HF7, HPBX, HF8⟩

set_option maxRecDepth 100000 in
set_option maxHeartbeats 800000 in
theorem step_none (W0 : World) (b s k n : Nat) (x : BuS) (A : Option Addr) (c : Nat) (kd bk tk : Int) (tv : Value) (w : World) (hs : StB W0 w b s k n x) (hT : TextOk x) (hr : Reads w 1 (.slice A s c) s ((refB x).map (Value.int .i64))) (hd : DisW (.slice A s c) x) (hlt : ∀ g, (Value.slice A s c).ownBlock = some g → g < w.heap.size) (h1 : kd ≠ 1) (h2 : kd ≠ 2) :
    Calls Try.prog 23 #[.pointer (some ⟨b, 0, none⟩), .agg #[.int .i64 s, .int .i64 k, .int .i64 n, .slice A s c, .bool x.ov], .agg #[.int .i64 kd, .int .i64 bk, .int .i64 tk, tv]] w fun e w' => StepR W0 w w' e b s k n x A c := by
  obtain ⟨wz, hwz, HB4, HB5, HB6, HLZ, HZZ⟩ := boxes3 w #[.int .i64 s, .int .i64 k, .int .i64 n, .slice A s c, .bool x.ov] #[.int .i64 kd, .int .i64 bk, .int .i64 tk, tv] #[.int .i64 s, .int .i64 k, .int .i64 n, .slice A s c, .bool x.ov] 53 34 53
  have HFIN : Hid (StepR W0 w wz (.returned (.tuple #[.agg #[.int .i64 s, .int .i64 k, .int .i64 n, .slice A s c, .bool x.ov], .bool true])) b s k n x A c) := ⟨x, A, c, rfl, hs.below HLZ.out, hT, hr.below HLZ.out, hd, fun g hg => Nat.lt_of_lt_of_le (hlt g hg) HLZ.out.size, Nat.le_succ _, Keep.ofBelowAll HLZ.out, fun q e => .inl e, rfl, fun g hg => .inl hg⟩
  rw [hwz] at HB6 HFIN
  have HB6' := Lib.hid HB6.out
  have t1 : (kd == 1) = false := by simpa using h1
  have t2 : (kd == 2) = false := by simpa using h2
  clear hwz hs hT hr hd hlt h1 h2 HB4 HB5 HLZ HZZ
  go_enter Try.func23, Try.ntmps23
  go_wp2
  obtain ⟨a0, a1, a2, a3, a4⟩ := blk5 HB6.out
  exact bodyPost_ret (v := .tuple #[.agg #[.int .i64 s, .int .i64 k, .int .i64 n, .slice A s c, .bool x.ov], .bool true]) (by simp [results, Try.f23, go_sem, a0, a1, a2, a3, a4]) rfl HFIN.out
set_option maxRecDepth 100000 in
set_option maxHeartbeats 800000 in
theorem step_giveup (W0 : World) (b s k n : Nat) (x : BuS) (A : Option Addr) (c : Nat) (bk tk : Int) (tv : Value) (w : World) (hs : StB W0 w b s k n x) (hT : TextOk x) (hr : Reads w 1 (.slice A s c) s ((refB x).map (Value.int .i64))) (hd : DisW (.slice A s c) x) (hlt : ∀ g, (Value.slice A s c).ownBlock = some g → g < w.heap.size) :
    Calls Try.prog 23 #[.pointer (some ⟨b, 0, none⟩), .agg #[.int .i64 s, .int .i64 k, .int .i64 n, .slice A s c, .bool x.ov], .agg #[.int .i64 2, .int .i64 bk, .int .i64 tk, tv]] w fun e w' => StepR W0 w w' e b s k n x A c := by
  obtain ⟨wz, hwz, HB4, HB5, HB6, HLZ, HZZ⟩ := boxes3 w #[.int .i64 s, .int .i64 k, .int .i64 n, .slice A s c, .bool x.ov] #[.int .i64 2, .int .i64 bk, .int .i64 tk, tv] #[.int .i64 0, .int .i64 0, .int .i64 0, .slice none 0 0, .bool false] 53 34 53
  have HWZ := Lib.hid hwz
  have hok := hs.at_.ok
  obtain ⟨M, hM, hC⟩ := miss_all x bk hok
  have hsz := hs.below HLZ.out
  have hrl := reflack_any x.s x.k x.n (refB x) x.ov bk A c wz hok (by rw [hs.s_]; exact hr.below HLZ.out) (refB_len x)
  have HSP := Lib.hid (fun S h => lack_spans (S := S) hok hT hM hC h)
  have hgu := fun w (h : BuAt w x) => giveup_any x bk w h M hM hC
  have hl16 : M.length ≤ 16385 := hM.len'
  rw [hs.b_] at hgu
  rw [hs.s_, hs.k_, hs.n_] at hrl
  have HSP' : Hid (∀ S, StrI (lackF (refB x) k n bk) true 0 (s : Int) S → S = M.map (spanP x)) := by have h := HSP.out; rw [hs.s_, hs.k_, hs.n_] at h; exact h
  have HGU := Lib.hid hgu
  have HRL := Lib.hid hrl
  have HSZ := Lib.hid hsz
  have HT := Lib.hid hT
  have HD := Lib.hid hd
  have HR := Lib.hid hr
  have HLT := Lib.hid hlt
  have HBL := Lib.hid (fun q (e : BuSet x q) => BuSet.lt hs.at_ e)
  have HPB := Lib.hid ((hs.at_.lts).2.1)
  have HW0 := Lib.hid hs.bel.size
  have hlz := HLZ.out.size
  clear hwz hok hsz hrl HSP hgu hs hT hr hd hlt hM hC
  obtain ⟨N, hN⟩ : ∃ N, N = M.length := ⟨_, rfl⟩
  have HNN := Lib.hid hN
  rw [← hN] at hl16
  clear hN
  go_enter Try.func23, Try.ntmps23
  go_wp2_with fail
  rw [← HWZ.out]
  refine HRL.out.mono ?_
  rintro e w1 ⟨S, A1, c1, rfl, hS, hO1, hb1⟩
  have hSM := HSP'.out S hS
  have hSN : S.length = N := by rw [hSM, List.length_map]; exact HNN.out.symm
  rw [hSN] at hO1 ⊢
  have HS1 := Lib.hid (HSZ.out.below hb1)
  have HO1 := Lib.hid hO1
  have HB1 := Lib.hid hb1
  have HSM := Lib.hid hSM
  have HB51 := Lib.hid (HB5.out.below hb1)
  obtain ⟨y0, y1, y2, y3⟩ := blk4 HB51.out
  clear hS hO1 hb1 hSM hSN
  go_wp2_with fail
  refine (HGU.out w1 HS1.out.at_).mono ?_
  rintro e w2 hg
  have HN : Hid (∀ q, w.heap.size ≤ q → ¬ BuSet x q) := fun q h e => absurd (HBL.out q e) (by omega)
  clear y0 y1 y2 y3
  by_cases hcase : x.ov = true ∨ N = 0
  · have hb : (x.ov || decide (M.length = 0)) = true := by rw [← HNN.out]; simpa using hcase
    unfold GiveR at hg
    rw [hb, if_pos rfl] at hg
    obtain ⟨rfl, hb2⟩ := hg
    have HS2 := Lib.hid (HS1.out.below hb2)
    have HB42 := Lib.hid ((HB4.out.below HB1.out).below hb2)
    have HB62 := Lib.hid ((HB6.out.below HB1.out).below hb2)
    have HR2 := Lib.hid (((HR.out.below HLZ.out).below HB1.out).below hb2)
    have HKS := Lib.hid (keep_state (S := fun g => g = w.heap.size + 2) (.int .i64 s) (.int .i64 k) (.int .i64 n) (.slice A s c) (.bool x.ov) (Keep.refl (fun g => g = w.heap.size + 2) w2) (b := w.heap.size + 2) (.inl rfl))
    have HF1 := Lib.hid (HS2.out.keep HKS.out (fun q e h => HN.out q (by omega) e) (fun h => by have := HPB.out; omega) (fun q h => by have := HW0.out; omega))
    have HF2 := Lib.hid (HR2.out.keep HKS.out (fun g hg _ e => by have := HLT.out g hg; omega))
    have HF4 : Hid (∀ g, (Value.slice A s c).ownBlock = some g → g < (((((w2.setCell ⟨w.heap.size + 2, 0, none⟩ (.int .i64 s)).setCell ⟨w.heap.size + 2, 1, none⟩ (.int .i64 k)).setCell ⟨w.heap.size + 2, 2, none⟩ (.int .i64 n)).setCell ⟨w.heap.size + 2, 3, none⟩ (.slice A s c)).setCell ⟨w.heap.size + 2, 4, none⟩ (.bool x.ov)).heap.size) := fun g hg => Nat.lt_of_lt_of_le (HLT.out g hg) (Nat.le_trans (Nat.le_trans hlz HB1.out.size) (Nat.le_trans hb2.size HKS.out.size))
    have HF6 := Lib.hid ((Keep.ofBelowAll (S := BuSet x) (bmore (bmore HLZ.out HB1.out HLZ.out.size) hb2 (Nat.le_trans HLZ.out.size HB1.out.size))).trans HKS.out (fun q hq h => by omega))
    have HKB := Lib.hid (set_state (.int .i64 s) (.int .i64 k) (.int .i64 n) (.slice A s c) (.bool x.ov) HB62.out)
    obtain ⟨v0, v1, v2, v3, v4⟩ := blk5 HB42.out
    obtain ⟨u0, u1, u2, u3, u4⟩ := blk5 HB62.out
    have f0 := HB62.out.frozen 0
    have f1 := HB62.out.frozen 1
    have f2 := HB62.out.frozen 2
    have f3 := HB62.out.frozen 3
    have f4 := HB62.out.frozen 4
    have hl4 := HB42.out.lt
    have hl6 := HB62.out.lt
    have t3 : ((N : Int) == 0) = decide (N = 0) := by rw [Bool.eq_iff_iff]; simp
    obtain ⟨dn, hdn⟩ : ∃ dn, dn = decide (N = 0) := ⟨_, rfl⟩
    obtain ⟨ov, hov⟩ : ∃ ov, ov = x.ov := ⟨_, rfl⟩
    have HOV := Lib.hid hov
    have hcs : (ov || dn) = true := by rw [hdn, hov]; simpa using hcase
    rw [← hdn] at t3
    rw [← hov] at v4 HKS HF1 HF2 HF4 HKB HF6 ⊢
    clear hb2 hb hcase hdn hov
    cases ov with
    | true =>
      go_wp2
      obtain ⟨a0, a1, a2, a3, a4⟩ := blk5 HKB.out
      exact bodyPost_ret (v := .tuple #[.agg #[.int .i64 s, .int .i64 k, .int .i64 n, .slice A s c, .bool true], .bool true]) (by simp [results, Try.f23, go_sem, hl4, hl6, a0, a1, a2, a3, a4]) rfl ⟨x, A, c, by rw [← HOV.out], HF1, HT, HF2, HD, HF4, Nat.le_succ _, HF6, fun q e => .inl e, rfl, fun g hg => .inl hg⟩
    | false =>
      cases dn with
      | false => cases hcs
      | true =>
        go_wp2
        obtain ⟨a0, a1, a2, a3, a4⟩ := blk5 HKB.out
        exact bodyPost_ret (v := .tuple #[.agg #[.int .i64 s, .int .i64 k, .int .i64 n, .slice A s c, .bool false], .bool true]) (by simp [results, Try.f23, go_sem, hl4, hl6, a0, a1, a2, a3, a4]) rfl ⟨x, A, c, by rw [← HOV.out], HF1, HT, HF2, HD, HF4, Nat.le_succ _, HF6, fun q e => .inl e, rfl, fun g hg => .inl hg⟩
  · have hb : (x.ov || decide (M.length = 0)) = false := by rw [← HNN.out, Bool.or_eq_false_iff]; simpa using hcase
    have hov : x.ov = false := by simpa using (fun h => hcase (.inl h))
    have hn0 : ¬ N = 0 := fun h => hcase (.inr h)
    unfold GiveR at hg
    rw [hb] at hg
    obtain ⟨A2, c2, rfl, HO2, HK2, HU2⟩ := (by simpa only [Bool.false_eq_true, ↓reduceIte] using hg : ∃ A c, e = .returned (.tuple #[.slice A M.length c, .int .i64 0]) ∧ Hid (w2.ownsRow w1.heap.size 46 2 (.slice A M.length c) M.length ((M.map (spanP x)).flatMap pairCells)) ∧ Hid (Keep (fun k => k = x.b) w1 w2) ∧ Hid (BuAt w2 { x with ov := true }))
    rw [← HNN.out] at HO2 ⊢
    have HNB : Hid (∀ q, w.heap.size ≤ q → ¬ q = x.b) := fun q h e => HN.out q h (.inl e)
    have hz3 := HZZ.out
    have HS2 : Hid (StB W0 w2 b s k n { x with ov := true }) := ⟨HU2.out, ⟨HS1.out.new.b, HS1.out.new.pb, HS1.out.new.hb, HS1.out.new.hv, HS1.out.new.tv, HS1.out.new.lv⟩, bkeep HS1.out.bel HK2.out (Nat.le_refl _) (fun q h => by have h : q = x.b := h; rw [h]; exact HS1.out.new.b), HS1.out.b_, HS1.out.s_, HS1.out.k_, HS1.out.n_⟩
    have HB42 := Lib.hid ((HB4.out.below HB1.out).keep HK2.out (HNB.out _ (by omega)))
    have HB52 := Lib.hid (HB51.out.keep HK2.out (HNB.out _ (by omega)))
    have HB62 := Lib.hid ((HB6.out.below HB1.out).keep HK2.out (HNB.out _ (by omega)))
    have HKP : Hid (Keep (fun g => g = w.heap.size) w2 (w2.setCell ⟨w.heap.size, 4, none⟩ (.bool true))) := (Keep.refl (fun g => g = w.heap.size) w2).setCell (p := ⟨w.heap.size, 4, none⟩) (.inl rfl) _
    have HB43 : Hid (Blk (w2.setCell ⟨w.heap.size, 4, none⟩ (.bool true)) w.heap.size #[.int .i64 s, .int .i64 k, .int .i64 n, .slice A s c, .bool true] 53) := HB42.out.set' (by simp)
    obtain ⟨v0, v1, v2, v3, v4⟩ := blk5 HB42.out
    rw [hov] at v4
    have f4 := HB42.out.frozen 4
    have hl4 := HB42.out.lt
    have hl6 := HB62.out.lt
    have t3 : ((N : Int) == 0) = false := by simpa using hn0
    have HOV := Lib.hid hov
    have hx4 : x.ov = false := hov
    clear hb hg hcase hov hn0 hz3
    rw [hx4]
    clear hx4
    go_wp2_with fail
    generalize w2.setCell ⟨w.heap.size, 4, none⟩ (.bool true) = w3 at *
    clear v0 v1 v2 v3 v4 f4
    have HZZ' := HZZ.out
    have HB53 := Lib.hid (HB52.out.keep HKP.out (by omega))
    have HB63 := Lib.hid (HB62.out.keep HKP.out (by omega))
    have HS3 := Lib.hid (HS2.out.keep HKP.out (fun q e h => HN.out q (by omega) e) (fun h => by have h : x.pb = w.heap.size := h; have := HPB.out; omega) (fun q h => by have := HW0.out; omega))
    have HR3 := Lib.hid (((((HR.out.below HLZ.out).below HB1.out).keep HK2.out (fun g hg _ e => (HD.out g hg).1 (.inl e))).keep HKP.out (fun g hg _ e => by have := HLT.out g hg; omega)))
    have HO13 : Hid (Reads w3 2 (.slice A1 N c1) N (S.flatMap pairCells)) := ((Reads.of_owns HO1.out).keep HK2.out (fun g hg _ e => HNB.out g (by have := (own_lt HO1.out hg).1; omega) e)).keep HKP.out (fun g hg _ e => by have := (own_lt HO1.out hg).1; omega)
    have HO23 : Hid (Reads w3 2 (.slice A2 N c2) N (S.flatMap pairCells)) := by
      show Reads ..
      rw [HSM.out]
      exact (Reads.of_owns HO2.out).keep HKP.out (fun g hg _ e => by have := (own_lt HO2.out hg).1; have := HB1.out.size; omega)
    have HSN : Hid (N = S.length) := by show _ = _; rw [HSM.out, List.length_map]; exact HNN.out
    have HPY : Hid (∀ wq, Below w3.heap.size w3 wq → Calls Try.prog 17 #[.slice A2 N c2, .slice A1 N c1] wq fun e w' => e = .returned (.bool true) ∧ ∃ n, w' = wq.drewN n) := fun wq hb => pairs_yes A2 A1 c2 c1 N S wq (HO23.out.below hb) (HO13.out.below hb) (by omega) HSN.out
    have hX2 : RgS (w.heap.size + 1) (w.heap.size + 2) w.heap.size (.int .i64 bk) tv (.int .i64 tk) (.int .i64 (s : Int)) (.int .i64 (k : Int)) (.int .i64 (n : Int)) (.slice A s c) (.bool true) w3.drew := by
      obtain ⟨y0, y1, y2, y3⟩ := blk4 HB53.out
      obtain ⟨v0, v1, v2, v3, v4⟩ := blk5 HB43.out
      obtain ⟨u0, u1, u2, u3, u4⟩ := blk5 HB63.out
      exact ⟨y1, y3, y2, v0, v1, v2, v3, v4, valAt_of u0, valAt_of u1, valAt_of u2, valAt_of u3, valAt_of u4, HB63.out.frozen 0, HB63.out.frozen 1, HB63.out.frozen 2, HB63.out.frozen 3, HB63.out.frozen 4⟩
    have m1 : ¬ w.heap.size + 1 = w.heap.size + 2 := by omega
    have n4 : ¬ w.heap.size = w.heap.size + 2 := by omega
    have hX2' := hX2
    unfold RgS at hX2
    clear HZZ'
    go_region_held3 (fun w' => w'.cell? ⟨w.heap.size + 1, 1, none⟩ = some (.int .i64 bk) ∧ w'.cell? ⟨w.heap.size + 1, 3, none⟩ = some tv ∧ w'.cell? ⟨w.heap.size + 1, 2, none⟩ = some (.int .i64 tk) ∧ w'.cell? ⟨w.heap.size, 0, none⟩ = some (.int .i64 (s : Int)) ∧ w'.cell? ⟨w.heap.size, 1, none⟩ = some (.int .i64 (k : Int)) ∧ w'.cell? ⟨w.heap.size, 2, none⟩ = some (.int .i64 (n : Int)) ∧ w'.cell? ⟨w.heap.size, 3, none⟩ = some (.slice A s c) ∧ w'.cell? ⟨w.heap.size, 4, none⟩ = some (.bool true) ∧ w'.cell? ⟨w.heap.size + 2, 0, none⟩ = some (valAt ⟨w.heap.size + 2, 0, none⟩ w') ∧ w'.cell? ⟨w.heap.size + 2, 1, none⟩ = some (valAt ⟨w.heap.size + 2, 1, none⟩ w') ∧ w'.cell? ⟨w.heap.size + 2, 2, none⟩ = some (valAt ⟨w.heap.size + 2, 2, none⟩ w') ∧ w'.cell? ⟨w.heap.size + 2, 3, none⟩ = some (valAt ⟨w.heap.size + 2, 3, none⟩ w') ∧ w'.cell? ⟨w.heap.size + 2, 4, none⟩ = some (valAt ⟨w.heap.size + 2, 4, none⟩ w') ∧ w'.frozen? ⟨w.heap.size + 2, 0, none⟩ = false ∧ w'.frozen? ⟨w.heap.size + 2, 1, none⟩ = false ∧ w'.frozen? ⟨w.heap.size + 2, 2, none⟩ = false ∧ w'.frozen? ⟨w.heap.size + 2, 3, none⟩ = false ∧ w'.frozen? ⟨w.heap.size + 2, 4, none⟩ = false)
      (first | with_reducible exact hX3 | with_reducible assumption | exact RgS.set5 HX3.out m1 n4 _ _ _ _ _)
      (first
        | (go_at_call 17; refine (HPY.out _ (below_drewN (Below.refl _ w3) 1)).mono ?_; rintro e w4 ⟨rfl, dn, hw4⟩; have HB4' : Hid (Below w3.heap.size w3 w4) := (by show Below _ _ _; rw [hw4]; exact below_drewN (below_drewN (Below.refl _ w3) 1) dn); have hk4 : Keep (fun _ => False) w3.drew w4 := (by rw [hw4]; exact (Keep.refl _ _).drewN dn); have HX3 := Lib.hid (RgS.keep hX2' hk4 id id id); clear hw4 hk4; have hX3 := HX3.out; unfold RgS at hX3))
    have HB64 := Lib.hid (HB63.out.belowAt HB4'.out HB63.out.lt)
    have HS4 := Lib.hid (HS3.out.below HB4'.out)
    have HR4 := Lib.hid (HR3.out.below HB4'.out)
    have HKS := Lib.hid (keep_state (S := fun g => g = w.heap.size + 2) (.int .i64 s) (.int .i64 k) (.int .i64 n) (.slice A s c) (.bool true) (Keep.refl (fun g => g = w.heap.size + 2) w4) (b := w.heap.size + 2) (.inl rfl))
    have hle : w.heap.size ≤ w4.heap.size := Nat.le_of_lt (Nat.lt_trans (by omega) HB64.out.lt)
    have HF1 := Lib.hid (HS4.out.keep HKS.out (fun q e h => HN.out q (by omega) e) (fun h => by have h : x.pb = w.heap.size + 2 := h; have := HPB.out; omega) (fun q h => by have := HW0.out; omega))
    have HF2 := Lib.hid (HR4.out.keep HKS.out (fun g hg _ e => by have := HLT.out g hg; omega))
    have HF4 := Lib.hid (fun g (hg : (Value.slice A s c).ownBlock = some g) => Nat.lt_of_lt_of_le (HLT.out g hg) (Nat.le_trans hle HKS.out.size))
    have HF6 := Lib.hid (((((Keep.ofBelowAll (S := BuSet x) (bmore HLZ.out HB1.out HLZ.out.size)).trans HK2.out (fun q _ h => .inl h)).trans HKP.out (fun q hq h => by omega)).trans (Keep.none HB4'.out) (fun _ _ h => h.elim)).trans HKS.out (fun q hq h => by omega))
    have HT2 : Hid (TextOk { x with ov := true }) := ⟨HT.out.len, HT.out.pos, HT.out.none⟩
    obtain ⟨a0, a1, a2, a3, a4⟩ := blk5 (set_state (.int .i64 s) (.int .i64 k) (.int .i64 n) (.slice A s c) (.bool true) HB64.out)
    have hl6 := HB64.out.lt
    clear hX3 hX2 hX2' hle
    go_wp2
    exact bodyPost_ret (v := .tuple #[.agg #[.int .i64 s, .int .i64 k, .int .i64 n, .slice A s c, .bool true], .bool true]) (by simp [results, Try.f23, go_sem, hl6, a0, a1, a2, a3, a4]) rfl ⟨{ x with ov := true }, A, c, rfl, HF1, HT2, HF2, HD, HF4, Nat.le_succ _, HF6, fun q e => .inl e, rfl, fun g hg => .inl hg⟩

/-- the least byte that lacks, of the first q -/
def prefQ (l : List Int) (s : Nat) : Nat → Nat
  | 0 => s
  | q + 1 => if l.getD q 0 < 0 then min (prefQ l s q) q else prefQ l s q
theorem prefQ_char {l : List Int} {s P : Nat} (h1 : ∀ p, p < P → 0 ≤ l.getD p 0) (h2 : P = s ∨ l.getD P 0 < 0) (hs : P ≤ s) : ∀ q, q ≤ s → prefQ l s q = if P < q then P else s
  | 0, _ => by simp [prefQ]
  | q + 1, hq => by
    have ih := prefQ_char h1 h2 hs q (by omega)
    unfold prefQ
    rw [ih]
    by_cases e : l.getD q 0 < 0
    · rw [if_pos e]
      have : ¬ q < P := fun h => by have := h1 q h; omega
      by_cases e2 : P < q
      · rw [if_pos e2, if_pos (by omega)]; omega
      · rw [if_neg e2, if_pos (by omega)]; omega
    · rw [if_neg e]
      have hne : P ≠ q := fun h => by
        subst h
        rcases h2 with h | h
        · omega
        · exact e h
      by_cases e2 : P < q
      · rw [if_pos e2, if_pos (by omega)]
      · rw [if_neg e2, if_neg (by omega)]
theorem prefQ_le {l : List Int} {s : Nat} : ∀ q, prefQ l s q ≤ s
  | 0 => Nat.le_refl _
  | q + 1 => by
    have := prefQ_le (l := l) (s := s) q
    unfold prefQ
    split <;> omega
theorem lyr_in {n i : Nat} (h1 : 1 ≤ n) (h2 : n ≤ 8) : lyr n i < n := by
  have hm : i % 2 ^ (n - 1) < 2 ^ (n - 1) := Nat.mod_lt _ (Nat.pow_pos (by omega))
  have key : ∀ n, n < 9 → 1 ≤ n → ∀ x, x < 2 ^ (n - 1) → bl x < n := by decide +kernel
  exact key n (by omega) h1 _ hm
/-- what Prefix tells is that -/
theorem pref_eq {x : BuS} {M : List (Int × Int)} (hp : PlanOk x.s x.k x.n) (ht : TextOk x) (hM : Good (-1) M) (hC : ∀ i, cov M i = (uptoB x.n (x.n : Int) (nb x.s x.k) i && !cov x.L i)) : prefI x M = (prefQ (refB x) x.s x.s : Nat) := by
  have hk := hp.2.1
  have hcv : ∀ p : Nat, p < x.s → cov M ((p / x.k : Nat) : Int) = !cov x.L ((p / x.k : Nat) : Int) := fun p h => by
    rw [hC]
    have hqb : p / x.k < nb x.s x.k := by
      rw [nb_lt hk]
      have := Nat.div_mul_le_self p x.k
      omega
    have hl := lyr_in (i := p / x.k) hp.2.2.2.1 hp.2.2.2.2
    generalize p / x.k = d at *
    unfold uptoB
    rw [decide_eq_true (show 0 ≤ ((d : Nat) : Int) ∧ ((d : Nat) : Int) < (nb x.s x.k : Nat) by omega), Int.toNat_natCast, decide_eq_true (by omega)]
    rfl
  have hget : ∀ p : Nat, p < x.s → (refB x).getD p 0 = if cov x.L ((p / x.k : Nat) : Int) then x.text.getD p 0 else -1 := fun p h => by
    rw [List.getD_eq_getElem?_getD, refB_get h]; rfl
  cases M with
  | nil =>
    have h := prefQ_char (l := refB x) (s := x.s) (P := x.s) (fun p hp' => by
      have hc := hcv p hp'
      have hc : false = !cov x.L ((p / x.k : Nat) : Int) := hc
      rw [hget p hp', if_pos (by simpa using hc.symm)]
      exact (ht.pos p hp').1) (.inl rfl) (Nat.le_refl _) x.s (Nat.le_refl _)
    rw [h, if_neg (Nat.lt_irrefl _)]
    rfl
  | cons y r =>
    obtain ⟨m1, m2, m3⟩ := miss_mem hM hC (y := y) (by simp)
    obtain ⟨a, ha⟩ : ∃ a : Nat, y.1 = a := ⟨y.1.toNat, by omega⟩
    have has := (nb_lt (s := x.s) (i := a) hk).1 (by omega)
    have hca : cov (y :: r) (a : Int) = true := cov_iff.2 ⟨y, by simp, by omega, by omega⟩
    have h := prefQ_char (l := refB x) (s := x.s) (P := a * x.k) (fun p hp' => by
      have hc := hcv p (by omega)
      have hlt : p / x.k < a := (Nat.div_lt_iff_lt_mul (by omega)).2 hp'
      have hno : cov (y :: r) ((p / x.k : Nat) : Int) = false := by
        rw [Bool.eq_false_iff]
        intro h
        obtain ⟨z, hz, z1, z2⟩ := cov_iff.1 h
        obtain ⟨g1, g2, g3, g4⟩ := hM
        generalize p / x.k = d at *
        rcases List.mem_cons.1 hz with rfl | hz
        · omega
        · have := (Good.mem g4 z hz).1
          omega
      rw [hno] at hc
      rw [hget p (by omega), if_pos (by simpa using hc.symm)]
      exact (ht.pos p (by omega)).1) (.inr (by
      have hc := hcv (a * x.k) has
      rw [Nat.mul_div_cancel _ (by omega)] at hc
      rw [hca] at hc
      rw [hget _ has, Nat.mul_div_cancel _ (by omega), if_neg (by simpa using hc.symm)]
      decide)) (by omega) x.s (Nat.le_refl _)
    rw [h, if_pos has]
    show y.1 * x.k = _
    rw [ha, ← Int.natCast_mul]
theorem pairs_len (x : BuS) (M : List (Int × Int)) : (M.map (spanP x)).length = M.length := List.length_map ..
set_option maxRecDepth 100000 in
set_option maxHeartbeats 800000 in
theorem same_any (W0 : World) (b s k n : Nat) (x : BuS) (A : Option Addr) (c : Nat) (K : Int) (w : World) (hs : StB W0 w b s k n x) (hT : TextOk x) (hr : Reads w 1 (.slice A s c) s ((refB x).map (Value.int .i64))) :
    Calls Try.prog 24 #[.pointer (some ⟨b, 0, none⟩), .agg #[.int .i64 s, .int .i64 k, .int .i64 n, .slice A s c, .bool x.ov], .int .i64 K] w fun e w' => e = .returned (.bool true) ∧ Below w.heap.size w w' := by
  have hok := hs.at_.ok
  have HBX := Lib.hid (Blk.new w #[.int .i64 s, .int .i64 k, .int .i64 n, .slice A s c, .bool x.ov] 53)
  have HBA : Hid (Below w.heap.size w (w.alloc (.cells #[.int .i64 s, .int .i64 k, .int .i64 n, .slice A s c, .bool x.ov] 53))) := (Below.refl _ w).alloc (Nat.le_refl _) _
  have hby := fun w h => bbytes_any x w h
  obtain ⟨Mn, gn, cn⟩ := miss_all x x.n hok
  obtain ⟨M, gM, cM⟩ := miss_all x K hok
  have hpf := fun w h => prefix_any x w h Mn gn cn
  rw [pref_eq hok hT gn cn] at hpf
  have hlk := fun w h => lacking_any x K w h M gM cM
  have hcp := fun w h => complete_any x K w h M gM cM
  have hrl := fun w (h : Reads w 1 (.slice A x.s c) x.s ((refB x).map (Value.int .i64))) => reflack_any x.s x.k x.n (refB x) x.ov K A c w hok h (refB_len x)
  have hsp := fun S h => lack_spans (S := S) hok hT gM cM h
  have hl16 : M.length ≤ 16385 := gM.len'
  have htx := hT.len
  rw [hs.b_] at hby hpf hlk hcp
  have HSP : Hid (∀ S, StrI (lackF (refB x) k n K) true 0 (s : Int) S → S = M.map (spanP x)) := by rw [hs.s_, hs.k_, hs.n_] at hsp; exact hsp
  rw [hs.s_] at hby hpf hrl htx
  rw [hs.k_, hs.n_] at hrl
  have HBY := Lib.hid hby
  have HPF := Lib.hid hpf
  have HLK := Lib.hid hlk
  have HCP := Lib.hid hcp
  have HRL := Lib.hid hrl
  have HS := Lib.hid hs
  have HT := Lib.hid hT
  have HR := Lib.hid hr
  have HXS : Hid (x.s = s) := hs.s_
  have hs16 : s ≤ 16384 := by have := hok.1; rw [hs.s_] at this; exact this
  have HTX := Lib.hid htx
  obtain ⟨N, hN⟩ : ∃ N, N = M.length := ⟨_, rfl⟩
  have HNN := Lib.hid hN
  rw [← hN] at hl16
  clear hok hby gn cn gM cM hpf hlk hcp hrl hsp hs hT hr htx hN
  go_enter Try.func24, Try.ntmps24
  go_wp2_with fail
  generalize w.alloc (.cells #[.int .i64 s, .int .i64 k, .int .i64 n, .slice A s c, .bool x.ov] 53) = wz at *
  refine (HBY.out wz (HS.out.below HBA.out).at_).mono ?_
  rintro e w1 ⟨A1, c1, rfl, ho1, hb1⟩
  have HR1 := Lib.hid ((HR.out.below HBA.out).below hb1)
  have HTR := Lib.hid (Reads.of_owns ho1)
  have HB1 := Lib.hid (bmore HBA.out hb1 HBA.out.size)
  have HBX1 := Lib.hid (HBX.out.below hb1)
  have HS1 := Lib.hid (HS.out.below HB1.out)
  obtain ⟨x0, x1, x2, x3, x4⟩ := blk5 HBX1.out
  clear ho1 hb1
  go_wp2_with fail
  clear x0 x1 x2 x3 x4
  go_loopw [8, 24] (fun p i wr => ∃ q : Nat, q ≤ s ∧ i = .int .i64 q ∧ p = .int .i64 (prefQ (refB x) s q : Nat) ∧ Hid (w1 = wr)) (fun _ i _ => s - (intOf i).toNat)
  case atStart => exact ⟨0, by omega, rfl, rfl, Lib.hid rfl⟩
  case round =>
    obtain ⟨q, hq, rfl, rfl, HW⟩ := hrel
    obtain rfl := HW.out
    by_cases hlt : q < s
    · obtain ⟨v, hv⟩ : ∃ v, x.text[q]? = some v := ⟨_, List.getElem?_eq_getElem (by rw [HTX.out]; exact hlt)⟩
      have hvd : x.text.getD q 0 = v := by rw [List.getD_eq_getElem?_getD, hv]; rfl
      have hv0 := HT.out.pos q (by rw [HXS.out]; exact hlt)
      have hvn := HT.out.none q (by rw [HXS.out]; exact hlt)
      have hu := refB_get (x := x) (p := q) (by rw [HXS.out]; exact hlt)
      rw [hvd] at hv0 hvn hu
      obtain ⟨u, hud⟩ : ∃ u, u = (if cov x.L ((q / x.k : Nat) : Int) then v else -1) := ⟨_, rfl⟩
      rw [← hud] at hu
      have huv : (u = v ∧ 0 ≤ u) ∨ (u = -1 ∧ v = 0) := by
        cases hc : cov x.L ((q / x.k : Nat) : Int) with
        | true => rw [hc] at hud; exact .inl ⟨hud, by rw [hud]; exact hv0.1⟩
        | false => rw [hc] at hud; exact .inr ⟨hud, hvn hc⟩
      obtain ⟨g1, p1, d1, he, y0⟩ := HR1.out.at q _ (by rw [List.getElem?_map, hu]; rfl)
      cases he
      obtain ⟨g2, p2, d2, he, y1⟩ := HTR.out.at q _ (by rw [List.getElem?_map, hv]; rfl)
      cases he
      have i1 : (0 : Int) ≤ (q : Int) := by omega
      have i2 : (q : Int) < (s : Int) := by omega
      have hpq : prefQ (refB x) s (q + 1) = if u < 0 then min (prefQ (refB x) s q) q else prefQ (refB x) s q := by
        rw [prefQ, List.getD_eq_getElem?_getD, hu]; rfl
      obtain ⟨pv, hpv⟩ : ∃ pv, pv = prefQ (refB x) s q := ⟨_, rfl⟩
      rw [← hpv] at hpq ⊢
      have hpl : pv ≤ s := by rw [hpv]; exact prefQ_le q
      have HPQ := Lib.hid hpq
      have hvb : 0 ≤ v ∧ v < 256 := hv0
      clear hvn hv0 hvd hv hu hud hpq hpv
      rcases huv with ⟨rfl, hu0⟩ | ⟨rfl, rfl⟩
      · have e1 : max u 0 = u := by omega
        have t1 : (u == u) = true := by simp
        have t3 : ¬ u < 0 := by omega
        have HQ2 : Hid (prefQ (refB x) s (q + 1) = pv) := by show _ = _; rw [HPQ.out, if_neg t3]
        go_wp2
        go_roundw
        case rel => exact ⟨q + 1, by omega, by go_num, by rw [HQ2.out], Lib.hid trivial⟩
        case measure => simp [intOf]; omega
      · have HQ2 : Hid (prefQ (refB x) s (q + 1) = min pv q) := by show _ = _; rw [HPQ.out, if_pos (by decide)]
        go_wp2
        go_roundw
        case rel => exact ⟨q + 1, by omega, by go_num, by rw [HQ2.out]; go_num, Lib.hid trivial⟩
        case measure => simp [intOf]; omega
    · obtain rfl : q = s := by omega
      obtain ⟨x0, x1, x2, x3, x4⟩ := blk5 HBX1.out
      obtain ⟨pf, hpf⟩ : ∃ pf, pf = prefQ (refB x) q q := ⟨_, rfl⟩
      have hpl : pf ≤ q := by rw [hpf]; exact prefQ_le q
      rw [← hpf] at HPF ⊢
      have t1 : ((pf : Int) == (pf : Int)) = true := by simp
      clear hpf
      go_wp2_with fail
      refine (HRL.out w1 HR1.out).mono ?_
      rintro e w2 ⟨S, A2, c2, rfl, hS, hO2, hb2⟩
      have hSM := HSP.out S hS
      have hSN : S.length = N := by rw [hSM, List.length_map]; exact HNN.out.symm
      rw [hSN] at hO2 ⊢
      have HS2 := Lib.hid (HS1.out.below hb2)
      have HO2 := Lib.hid hO2
      have HB2 := Lib.hid (bmore HB1.out hb2 HB1.out.size)
      have HSM := Lib.hid hSM
      clear hS hO2 hb2 hSM hSN x0 x1 x2 x3 x4
      go_wp2_with fail
      refine (HPF.out w2 HS2.out.at_).mono ?_
      rintro e w3 ⟨rfl, hb3⟩
      have HS3 := Lib.hid (HS2.out.below hb3)
      have HB3 := Lib.hid (bmore HB2.out hb3 HB2.out.size)
      have HR23 := Lib.hid ((Reads.of_owns HO2.out).below hb3)
      clear hb3
      go_wp2_with fail
      refine (HLK.out w3 HS3.out.at_).mono ?_
      rintro e w4 ⟨A4, c4, rfl, ho4, hb4⟩
      rw [← HNN.out] at ho4 ⊢
      have HS4 := Lib.hid (HS3.out.below hb4)
      have HB4 := Lib.hid (bmore HB3.out hb4 HB3.out.size)
      have HR24 := Lib.hid (HR23.out.below hb4)
      have HR44 : Hid (Reads w4 2 (.slice A4 N c4) N (S.flatMap pairCells)) := by show Reads ..; rw [HSM.out]; exact Reads.of_owns ho4
      have HSN : Hid (N = S.length) := by show _ = _; rw [HSM.out, List.length_map]; exact HNN.out
      clear ho4 hb4
      go_wp2_with fail
      refine (pairs_yes A4 A2 c4 c2 N S w4 HR44.out HR24.out (by omega) HSN.out).mono ?_
      rintro e w5 ⟨rfl, dn, hw5⟩
      have hb5 : Below w4.heap.size w4 w5 := by rw [hw5]; exact below_drewN (Below.refl _ w4) dn
      have HS5 := Lib.hid (HS4.out.below hb5)
      have HB5 := Lib.hid (bmore HB4.out hb5 HB4.out.size)
      clear hw5 hb5
      go_wp2_with fail
      refine (HCP.out w5 HS5.out.at_).mono ?_
      rintro e w6 ⟨rfl, hb6⟩
      rw [← HNN.out]
      have HB6 := Lib.hid (bmore HB5.out hb6 HB5.out.size)
      have t3 : ((N : Int) == 0) = decide (N = 0) := by rw [Bool.eq_iff_iff]; simp
      obtain ⟨dn, hdn⟩ : ∃ dn, dn = decide (N = 0) := ⟨_, rfl⟩
      rw [← hdn] at t3 ⊢
      clear hb6 hdn
      cases dn with
      | true =>
        go_wp2
        go_ret
        exact ⟨rfl, HB6.out⟩
      | false =>
        go_wp2
        go_ret
        exact ⟨rfl, HB6.out⟩

/-- the build, the reference's state in its box, since W0 -/
structure PlS (W0 w : World) (b s k n p7 : Nat) (x : BuS) (A : Option Addr) (c j : Nat) : Prop where
  st : StB W0 w b s k n x
  tx : TextOk x
  bx : Blk w p7 #[.int .i64 (s : Int), .int .i64 (k : Int), .int .i64 (n : Int), .slice A s c, .bool x.ov] 53
  rd : Reads w 1 (.slice A s c) s ((refB x).map (Value.int .i64))
  dw : DisW (.slice A s c) x
  lt : ∀ g, (Value.slice A s c).ownBlock = some g → g < w.heap.size ∧ g ≠ p7
  lg : x.log.length ≤ j
  p7 : ¬ BuSet x p7 ∧ p7 ≠ x.pb ∧ W0.heap.size ≤ p7
theorem PlS.below {W0 w w' : World} {b s k n p7 : Nat} {x : BuS} {A : Option Addr} {c j : Nat} (h : PlS W0 w b s k n p7 x A c j) (hb : Below w.heap.size w w') : PlS W0 w' b s k n p7 x A c j :=
  ⟨h.st.below hb, h.tx, h.bx.below hb, h.rd.below hb, h.dw, fun g hg => ⟨Nat.lt_of_lt_of_le (h.lt g hg).1 hb.size, (h.lt g hg).2⟩, h.lg, h.p7⟩
theorem set_state2 {w : World} {b : Nat} {o0 o1 o2 o3 o4 : Value} (u0 u1 u2 u3 u4 : Value) (h : Blk w b #[o0, o1, o2, o3, o4] 53) :
    Blk (((((w.setCell ⟨b, 0, none⟩ u0).setCell ⟨b, 1, none⟩ u1).setCell ⟨b, 2, none⟩ u2).setCell ⟨b, 3, none⟩ u3).setCell ⟨b, 4, none⟩ u4) b #[u0, u1, u2, u3, u4] 53 :=
  ((((h.set' (cs' := #[u0, o1, o2, o3, o4]) (by simp)).set' (cs' := #[u0, u1, o2, o3, o4]) (by simp)).set' (cs' := #[u0, u1, u2, o3, o4]) (by simp)).set' (cs' := #[u0, u1, u2, u3, o4]) (by simp)).set' (by simp)
theorem PlS.step {W0 w w' : World} {b s k n p7 : Nat} {x x' : BuS} {A A' : Option Addr} {c c' j : Nat} (h : PlS W0 w b s k n p7 x A c j) (h1 : StB W0 w' b s k n x') (h2 : TextOk x') (h3 : Reads w' 1 (.slice A' s c') s ((refB x').map (Value.int .i64))) (h4 : DisW (.slice A' s c') x') (h5 : ∀ g, (Value.slice A' s c').ownBlock = some g → g < w'.heap.size) (h6 : x'.log.length ≤ x.log.length + 1)
    (h7 : Keep (BuSet x) w w') (h8 : ∀ q, BuSet x' q → BuSet x q ∨ w.heap.size ≤ q) (h9 : x'.pb = x.pb) (h10 : ∀ g, (Value.slice A' s c').ownBlock = some g → (Value.slice A s c).ownBlock = some g ∨ w.heap.size ≤ g) :
    PlS W0 (((((w'.setCell ⟨p7, 0, none⟩ (.int .i64 (s : Int))).setCell ⟨p7, 1, none⟩ (.int .i64 (k : Int))).setCell ⟨p7, 2, none⟩ (.int .i64 (n : Int))).setCell ⟨p7, 3, none⟩ (.slice A' s c')).setCell ⟨p7, 4, none⟩ (.bool x'.ov)) b s k n p7 x' A' c' (j + 1) := by
  have hl7 := h.bx.lt
  have hbx := h.bx.keep h7 h.p7.1
  have hk := keep_state (S := fun g => g = p7) (.int .i64 (s : Int)) (.int .i64 (k : Int)) (.int .i64 (n : Int)) (.slice A' s c') (.bool x'.ov) (Keep.refl (fun g => g = p7) w') (b := p7) (.inl rfl)
  have hn : ¬ BuSet x' p7 := fun e => by
    rcases h8 p7 e with h' | h'
    · exact h.p7.1 h'
    · omega
  have hg7 : ∀ g, (Value.slice A' s c').ownBlock = some g → g ≠ p7 := fun g hg => by
    rcases h10 g hg with h' | h'
    · exact (h.lt g h').2
    · omega
  exact ⟨h1.keep hk (fun q e h' => hn (h' ▸ e)) (fun h' => h.p7.2.1 (by rw [← h9]; exact h'.symm)) (fun q h' => by rw [h']; exact h.p7.2.2), h2, set_state2 _ _ _ _ _ hbx, h3.keep hk (fun g hg _ => hg7 g hg), h4, fun g hg => ⟨Nat.lt_of_lt_of_le (h5 g hg) hk.size, hg7 g hg⟩, by have := h.lg; omega, hn, by rw [h9]; exact h.p7.2.1, h.p7.2.2⟩
/-- step, any call -/
theorem step_any (W0 : World) (b s k n p7 : Nat) (x : BuS) (A : Option Addr) (c j : Nat) (kd bk tk : Int) (tv : Value) (tx : List Int) (w : World) (h : PlS W0 w b s k n p7 x A c j) (hin : OpIn W0 ⟨kd, bk, tk, tv, tx⟩) (hj : j ≤ 1000) :
    Calls Try.prog 23 #[.pointer (some ⟨b, 0, none⟩), .agg #[.int .i64 s, .int .i64 k, .int .i64 n, .slice A s c, .bool x.ov], .agg #[.int .i64 kd, .int .i64 bk, .int .i64 tk, tv]] w fun e w' => StepR W0 w w' e b s k n x A c := by
  have hll : x.log.length ≤ 1000 := Nat.le_trans h.lg hj
  by_cases h1 : kd = 1
  · subst h1
    exact step_put W0 b s k n x A c bk tk tv tx w h.st h.tx h.rd h.dw (fun g hg => (h.lt g hg).1) hin hll
  · by_cases h2 : kd = 2
    · subst h2
      exact step_giveup W0 b s k n x A c bk tk tv w h.st h.tx h.rd h.dw (fun g hg => (h.lt g hg).1)
    · exact step_none W0 b s k n x A c kd bk tk tv w h.st h.tx h.rd h.dw (fun g hg => (h.lt g hg).1) h1 h2
set_option maxRecDepth 100000 in
set_option maxHeartbeats 1000000 in
theorem plays_no (s k n : Int) (A : Option Addr) (m c : Nat) (K : Int) (w : World) (hz : rightC s k n m = false) :
    Calls Try.prog 6 #[.agg #[.int .i64 s, .int .i64 k, .int .i64 n, .slice A m c], .int .i64 K] w fun e w' => e = .returned (.bool true) ∧ Below w.heap.size w w' := by
  have HR := Lib.hid (fun w => right26_any s k n A m c w)
  rw [hz] at HR
  have hbz := Blk.new w #[.int .i64 s, .int .i64 k, .int .i64 n, .slice A m c] 24
  have HB := Lib.hid ((Below.refl _ w).alloc (Nat.le_refl w.heap.size) (.cells #[.int .i64 s, .int .i64 k, .int .i64 n, .slice A m c] 24))
  obtain ⟨c0, c1, c2, c3⟩ := blk4 hbz
  clear hbz hz
  go_enter Try.func6, Try.ntmps6
  go_wp2_with fail
  refine (HR.out _).mono ?_
  rintro e w1 ⟨rfl, hb1⟩
  have HB1 := Lib.hid (bmore HB.out hb1 HB.out.size)
  clear hb1
  go_wp2_with fail
  refine (awake_any _).mono ?_
  rintro e w2 ⟨rfl, hb2⟩
  have HB2 := Lib.hid (bmore HB1.out hb2 HB1.out.size)
  clear hb2
  go_wp2
  go_ret
  exact ⟨rfl, HB2.out⟩
theorem refB_new {x : BuS} {s : Nat} (hs : x.s = s) (hL : x.L = []) : refB x = List.replicate s (-1) := by
  unfold refB
  rw [hs, hL]
  apply List.ext_getElem
  · simp
  · intro i h1 h2
    simp [cov]
theorem text_new {x : BuS} {s : Nat} (hs : x.s = s) (ht : x.text = List.replicate s 0) : TextOk x := by
  have hg : ∀ p, x.text.getD p 0 = 0 := fun p => by
    rw [ht, List.getD_eq_getElem?_getD, List.getElem?_replicate]
    split <;> rfl
  exact ⟨by rw [ht, hs]; simp, fun p _ => by rw [hg]; decide, fun p _ _ => hg p⟩
set_option maxRecDepth 100000 in
set_option maxHeartbeats 1000000 in
theorem plays_yes (s k n : Nat) (A : Option Addr) (m c : Nat) (K : Int) (ops : List OpB) (w : World) (hz : rightC s k n m = true) (hp : PlanOk s k n) (hs4 : s ≤ 400) (hm : m ≤ 60) (h : OpsIn w (.slice A m c) ops) (hl : m = ops.length) :
    Calls Try.prog 6 #[.agg #[.int .i64 s, .int .i64 k, .int .i64 n, .slice A m c], .int .i64 K] w fun e w' => e = .returned (.bool true) ∧ Below w.heap.size w w' := by
  have HR := Lib.hid (fun w => right26_any s k n A m c w)
  rw [hz] at HR
  have hbz := Blk.new w #[.int .i64 s, .int .i64 k, .int .i64 n, .slice A m c] 24
  have hba : Below w.heap.size w (w.alloc (.cells #[.int .i64 s, .int .i64 k, .int .i64 n, .slice A m c] 24)) := (Below.refl _ w).alloc (Nat.le_refl _) _
  have HX := Lib.hid (h.below hba)
  have HL := Lib.hid hl
  have HP := Lib.hid hp
  obtain ⟨x0, x1, x2, x3⟩ := blk4 hbz
  have HBZ := Lib.hid hbz
  have HBA := Lib.hid hba
  have HNW := Lib.hid (fun w => bnew_yes s k n w hp)
  have HRN := Lib.hid (fun w => refnew_any s k n w hp.1)
  clear h hl hbz hba hz hp
  go_enter Try.func6, Try.ntmps6
  go_wp2_with fail
  generalize w.alloc (.cells #[.int .i64 s, .int .i64 k, .int .i64 n, .slice A m c] 24) = wz at *
  refine (HR.out wz).mono ?_
  rintro e w0 ⟨rfl, hb0⟩
  have HX0 := Lib.hid (HX.out.below hb0)
  have HB0 := Lib.hid (HBZ.out.below hb0)
  have HBB0 := Lib.hid (bmore HBA.out hb0 HBA.out.size)
  clear hb0 x0 x1 x2 x3
  obtain ⟨x0, x1, x2, x3⟩ := blk4 HB0.out
  have hw0 : w.heap.size < w0.heap.size := HB0.out.lt
  go_wp2_with fail
  refine (HNW.out w0).mono ?_
  rintro e w1 ⟨x, rfl, hx, ex, nx, b1⟩
  obtain ⟨b, hb⟩ : ∃ b, b = x.b := ⟨_, rfl⟩
  have HS1 : Hid (StB w0 w1 b s k n x) := ⟨hx.out, nx.out, b1.out, hb.symm, ex.out.1, ex.out.2.1, ex.out.2.2.1⟩
  have HTX : Hid (TextOk x) := text_new ex.out.1 ex.out.2.2.2.2.1
  have HRB : Hid (refB x = List.replicate s (-1)) := refB_new ex.out.1 ex.out.2.2.2.1
  have HLG : Hid (x.log.length ≤ 0) := by show _ ≤ _; rw [ex.out.2.2.2.2.2.1]; exact Nat.le_refl _
  have HOV : Hid (x.ov = false) := ex.out.2.2.2.2.2.2
  rw [← hb]
  have B1 := Lib.hid (HB0.out.belowAt b1.out hw0)
  clear hb hx ex nx b1 x0 x1 x2 x3
  obtain ⟨x0, x1, x2, x3⟩ := blk4 B1.out
  go_wp2_with fail
  refine (HRN.out w1).mono ?_
  rintro e w2 ⟨A2, c2, rfl, ho2, hb2⟩
  have HS2 := Lib.hid (HS1.out.below hb2)
  have HB2 := Lib.hid (B1.out.below hb2)
  have hbx := Blk.new w2 #[.int .i64 s, .int .i64 k, .int .i64 n, .slice A2 s c2, .bool false] 53
  have hbl : Below w2.heap.size w2 (w2.alloc (.cells #[.int .i64 s, .int .i64 k, .int .i64 n, .slice A2 s c2, .bool false] 53)) := (Below.refl _ w2).alloc (Nat.le_refl _) _
  have HPL : Hid (PlS w0 (w2.alloc (.cells #[.int .i64 s, .int .i64 k, .int .i64 n, .slice A2 s c2, .bool false] 53)) b s k n w2.heap.size x A2 c2 0) := by
    have hlt := fun g hg => own_lt ho2 (k := g) hg
    have hw1 := HS1.out.at_.lts.2.1
    have hw1' := hb2.size
    refine ⟨HS2.out.below hbl, HTX.out, by rw [HOV.out]; exact hbx, by rw [HRB.out]; exact (Reads.of_owns ho2).below hbl, fun g hg => ⟨fun e => by have := BuSet.lt HS1.out.at_ e; have := hlt g hg; omega, by have := hlt g hg; omega⟩, fun g hg => ⟨Nat.lt_of_lt_of_le (hlt g hg).2 hbl.size, by have := hlt g hg; omega⟩, HLG.out, fun e => by have := BuSet.lt HS1.out.at_ e; omega, by omega, HS2.out.bel.size⟩
  obtain ⟨p7, hp7⟩ : ∃ p7, p7 = w2.heap.size := ⟨_, rfl⟩
  have hb7 : Blk (w2.alloc (.cells #[.int .i64 s, .int .i64 k, .int .i64 n, .slice A2 s c2, .bool false] 53)) w.heap.size #[.int .i64 s, .int .i64 k, .int .i64 n, .slice A m c] 24 := HB2.out.below hbl
  have HB7 := Lib.hid hb7
  clear x0 x1 x2 x3 hbx hbl ho2 hb2 hb7
  obtain ⟨x0, x1, x2, x3⟩ := blk4 HB2.out
  have hlw := HB2.out.lt
  have hne : ¬ w.heap.size = w2.heap.size := by omega
  have hne2 : ¬ w2.heap.size = w.heap.size := by omega
  go_wp2_with fail
  generalize w2.alloc (.cells #[.int .i64 s, .int .i64 k, .int .i64 n, .slice A2 s c2, .bool false] 53) = w3 at *
  rw [← hp7] at *
  clear x0 x1 x2 x3 hlw hne hne2 hp7
  go_loopw [41] (fun i wr => ∃ (j : Nat) (x : BuS) (A' : Option Addr) (c' : Nat), j ≤ m ∧ i = .int .i64 j ∧ Hid (PlS w0 wr b s k n p7 x A' c' j)) (fun i _ => m - (intOf i).toNat)
  case atStart => exact ⟨0, x, A2, c2, by omega, rfl, HPL⟩
  case round =>
    obtain ⟨j, x, A', c', hj, rfl, HS⟩ := hrel
    by_cases hlt : j < m
    · obtain ⟨⟨kd, bk, tk, tv, tx⟩, ho⟩ : ∃ o, ops[j]? = some o := ⟨_, List.getElem?_eq_getElem (by rw [← HL.out]; exact hlt)⟩
      have hin := HX0.out.all _ (List.mem_of_getElem? ho)
      obtain ⟨tA, tc, htv, -⟩ := hin.rd.val
      have htv : tv = .slice tA tx.length tc := htv
      obtain ⟨tn, htn⟩ : ∃ tn, tn = tx.length := ⟨_, rfl⟩
      rw [← htn] at htv
      subst htv
      clear htn
      obtain ⟨g, p, c0, he, o0, o1, o2, o3⟩ := (HX0.out.below HS.out.st.bel).at ho
      rw [← HL.out] at he
      cases he
      have i1 : (0 : Int) ≤ (j : Int) := by omega
      have i2 : (j : Int) < (m : Int) := by omega
      have hbo : Below wr.heap.size wr (wr.alloc (.cells #[.int .i64 kd, .int .i64 bk, .int .i64 tk, .slice tA tn tc] 34)) := (Below.refl _ wr).alloc (Nat.le_refl _) _
      have HS2 := Lib.hid (HS.out.below hbo)
      have HST := Lib.hid (step_any w0 b s k n p7 x A' c' j kd bk tk (.slice tA tn tc) tx _ HS2.out hin (by omega))
      obtain ⟨v0, v1, v2, v3, v4⟩ := blk5 HS.out.bx
      have hl7 := HS.out.bx.lt
      have e1 : ¬ p7 = wr.heap.size := by omega
      have e2 : ¬ wr.heap.size = p7 := by omega
      clear ho hin hbo
      go_wp2_with fail
      refine HST.out.mono ?_
      rintro e w4 ⟨x', A3, c3, rfl, h1, h2, h3, h4, h5, h6, h7, h8, h9, h10⟩
      have HS4 := Lib.hid (HS2.out.step h1.out h2.out h3.out h4.out h5.out h6.out h7.out h8.out h9.out h10.out)
      have HBX4 := Lib.hid (HS2.out.bx.keep h7.out HS2.out.p7.1)
      clear h1 h2 h3 h4 h5 h6 h7 h8 h9 h10 v0 v1 v2 v3 v4 hl7 e1 e2 o0 o1 o2 o3
      obtain ⟨v0, v1, v2, v3, v4⟩ := blk5 HBX4.out
      have f0 := HBX4.out.frozen 0
      have f1 := HBX4.out.frozen 1
      have f2 := HBX4.out.frozen 2
      have f3 := HBX4.out.frozen 3
      have f4 := HBX4.out.frozen 4
      have hl7 := HBX4.out.lt
      go_wp2_with fail
      refine (same_any w0 b s k n x' A3 c3 K _ HS4.out.st HS4.out.tx HS4.out.rd).mono ?_
      rintro e w5 ⟨rfl, hb5⟩
      have HS5 := Lib.hid (HS4.out.below hb5)
      clear hb5 v0 v1 v2 v3 v4 f0 f1 f2 f3 f4 hl7
      go_wp2
      go_roundw
      case rel => exact ⟨j + 1, x', A3, c3, by omega, by go_num, HS5⟩
      case measure => simp [intOf]; omega
    · obtain rfl : j = m := by omega
      obtain ⟨v0, v1, v2, v3, v4⟩ := blk5 HS.out.bx
      obtain ⟨wb, hwb⟩ : ∃ wb : World, wb = wr := ⟨_, rfl⟩
      rw [← hwb] at HS v0 v1 v2 v3 v4 ⊢
      clear hwb
      go_wp2_with fail
      refine (same_any w0 b s k n x A' c' K wb HS.out.st HS.out.tx HS.out.rd).mono ?_
      rintro e w5 ⟨rfl, hb5⟩
      have HB5 := Lib.hid (bmore (bmore HBB0.out HS.out.st.bel HBB0.out.size) hb5 (Nat.le_trans HBB0.out.size HS.out.st.bel.size))
      clear hb5
      go_wp2_with fail
      refine (awake_any w5).mono ?_
      rintro e w7 ⟨rfl, hb7⟩
      have HB7 := Lib.hid (bmore HB5.out hb7 HB5.out.size)
      clear hb7
      go_wp2
      go_ret
      exact ⟨rfl, HB7.out⟩
theorem buildPlays_any (s k n : Int) (v : Value) (K : Int) (ops : List OpB) (w : World) (h : OpsIn w v ops) :
    Calls Try.prog 6 #[.agg #[.int .i64 s, .int .i64 k, .int .i64 n, v], .int .i64 K] w fun e w' => e = .returned (.bool true) ∧ Below w.heap.size w w' := by
  obtain ⟨A, c, rfl, -⟩ := h.rd.val
  cases hz : rightC s k n ops.length with
  | false => exact plays_no s k n A _ c K w hz
  | true =>
    obtain ⟨s', k', n', rfl, rfl, rfl, hp, hs, hm⟩ := rightC_ok hz
    exact plays_yes s' k' n' A _ c K ops w hz hp hs hm h rfl
end Go.Proofs.Ythjlbbbkghigfaa
