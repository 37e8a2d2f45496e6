/- clr: the law ClrPasses. -/
import Derived.Test.YthnnhagccemnnaaClr11
namespace Go.Proofs.Ythnnhagccemnnaa
open Go.RowKit
set_option linter.unusedVariables false
set_option linter.unusedSimpArgs false

def PassR (lim by' : Int) (t : Told) : Prop := 1 ≤ lim ∧ lim ≤ 1048576 ∧ 0 ≤ t.frm ∧ t.frm ≤ 63 ∧ 0 ≤ t.tick ∧ t.tick ≤ 1099511627776 ∧ 0 ≤ by' ∧ by' ≤ 2097152
set_option maxRecDepth 100000 in
set_option maxHeartbeats 2000000 in
theorem clrPasses_no (lim by' : Int) (t : Told) (w : World) (h : ¬ PassR lim by' t) :
    Calls Try.prog 4 #[.int .i64 lim, .agg #[.int .i64 t.frm, .int .i64 t.tick, .int .u64 t.rate], .int .i64 by'] w fun e w' => e = .returned (.bool true) ∧ Below w.heap.size w w' := by
  unfold PassR at h
  have HAW := Lib.hid awake_any
  have HB0 := Lib.hid ((Below.refl w.heap.size w).alloc (Nat.le_refl _) (.cells #[.int .i64 t.frm, .int .i64 t.tick, .int .u64 t.rate] 34))
  rcases (by omega : lim < 1 ∨ (1 ≤ lim ∧ 1048576 < lim) ∨ (1 ≤ lim ∧ lim ≤ 1048576 ∧ t.frm < 0) ∨ (1 ≤ lim ∧ lim ≤ 1048576 ∧ 0 ≤ t.frm ∧ 63 < t.frm) ∨ (1 ≤ lim ∧ lim ≤ 1048576 ∧ 0 ≤ t.frm ∧ t.frm ≤ 63 ∧ t.tick < 0) ∨ (1 ≤ lim ∧ lim ≤ 1048576 ∧ 0 ≤ t.frm ∧ t.frm ≤ 63 ∧ 0 ≤ t.tick ∧ 1099511627776 < t.tick) ∨ (1 ≤ lim ∧ lim ≤ 1048576 ∧ 0 ≤ t.frm ∧ t.frm ≤ 63 ∧ 0 ≤ t.tick ∧ t.tick ≤ 1099511627776 ∧ by' < 0) ∨ (1 ≤ lim ∧ lim ≤ 1048576 ∧ 0 ≤ t.frm ∧ t.frm ≤ 63 ∧ 0 ≤ t.tick ∧ t.tick ≤ 1099511627776 ∧ 0 ≤ by' ∧ 2097152 < by')) with
    g1 | ⟨g1, g2⟩ | ⟨g1, g2, g3⟩ | ⟨g1, g2, g3, g4⟩ | ⟨g1, g2, g3, g4, g5⟩ | ⟨g1, g2, g3, g4, g5, g6⟩ | ⟨g1, g2, g3, g4, g5, g6, g7⟩ | ⟨g1, g2, g3, g4, g5, g6, g7, g8⟩
  all_goals
    clear h
    go_enter Try.func4, Try.ntmps4
    go_wp2_with fail
    refine (HAW.out _).mono ?_
    rintro e w2 ⟨rfl, hb2⟩
    have hq := bmore HB0.out hb2 HB0.out.size
    go_wp2
    go_ret
    exact ⟨rfl, hq⟩

set_option maxRecDepth 100000 in
set_option maxHeartbeats 2000000 in
theorem clrPasses_yes (lim by' : Int) (t : Told) (w : World) (h : PassR lim by' t) :
    Calls Try.prog 4 #[.int .i64 lim, .agg #[.int .i64 t.frm, .int .i64 t.tick, .int .u64 t.rate], .int .i64 by'] w fun e w' => e = .returned (.bool true) ∧ Below w.heap.size w w' := by
  obtain ⟨g1, g2, g3, g4, g5, g6, g7, g8⟩ := h
  have HAW := Lib.hid awake_any
  have HB0 := Lib.hid ((Below.refl w.heap.size w).alloc (Nat.le_refl _) (.cells #[.int .i64 t.frm, .int .i64 t.tick, .int .u64 t.rate] 34))
  have HK0 := Lib.hid (Blk.new w #[.int .i64 t.frm, .int .i64 t.tick, .int .u64 t.rate] 34)
  have HNW := Lib.hid (fun w => new_ok lim w g1 g2)
  have HTK := Lib.hid @take_ok
  have HCL := Lib.hid @clr_any
  have HPN := Lib.hid @pass_no
  have HPY := Lib.hid @pass_yes
  have m1 : mayE [] lim t t.tick = 0 := by
    have h1 : timeB t.tick = true := timeB_iff.2 ⟨g5, g6⟩
    unfold mayE
    rw [if_neg (by rw [h1]; simp; omega), if_neg (by simp [lk]; omega)]
  have e1 : tkC [] (-1) t = t.frm := if_pos (.inl rfl)
  have M1 := Lib.hid m1
  have E1 := Lib.hid e1
  clear m1 e1
  go_enter Try.func4, Try.ntmps4
  go_wp2_with fail
  refine (HNW.out _).mono ?_
  rintro e w1 ⟨b, v, rfl, h0, hb, hv, hb1⟩
  have H0 := Lib.hid h0
  have hbw : w.heap.size < b := by simp at hb; omega
  have hvw : ∀ g, v.ownBlock = some g → w.heap.size < g := fun g hg => by have := hv g hg; simp at this; omega
  have HVW := Lib.hid hvw
  have HB1 := Lib.hid (bmore HB0.out hb1 HB0.out.size)
  have HK1 := Lib.hid (HK0.out.below hb1)
  obtain ⟨q0, q1, q2⟩ := blk3 HK1.out
  clear h0 hb hv hb1 hvw
  go_wp2_with fail
  refine (HTK.out b v [] lim (-1) t.tick t w1 H0.out (by decide) M1.out).mono ?_
  rintro e w2 ⟨rfl, htk⟩
  have hk2 := htk.kp
  obtain ⟨⟨v1, l1, h1, hl1, hn1, ho1⟩, -⟩ := htk
  rw [E1.out] at h1
  have hn1 : l1.length = 1 := hn1
  have HL1 : Hid (∀ r, lk l1 r = if r = t.frm then some t else none) := fun r => hl1 r
  have hs1 : w.heap.size < w1.heap.size := HK1.out.lt
  have HK2 := Lib.hid (HK1.out.keep hk2 (fun h => h.elim (fun e => by omega) (fun e => by have := HVW.out _ e; omega)))
  have HB2 := Lib.hid (bkeep HB1.out hk2 (Nat.le_refl _) (fun k hk => hk.elim (fun e => by omega) (fun e => by have := HVW.out k e; omega)))
  have HO1 : Hid (∀ g, v1.ownBlock = some g → w.heap.size < g) := fun g hg => (ho1 g hg).elim (HVW.out g) (fun h => by omega)
  have H1 := Lib.hid h1
  have HN1 := Lib.hid hn1
  clear q0 q1 q2 h1 hl1 hn1 ho1 hk2
  obtain ⟨q0, q1, q2⟩ := blk3 HK2.out
  have hlt1 : lk l1 t.frm = some t := by rw [HL1.out]; exact if_pos rfl
  have hgv : gotV (lk l1 t.frm) = t := by rw [hlt1]; rfl
  have HLT := Lib.hid hlt1
  have HGV := Lib.hid hgv
  have hgo : goes l1 lim t.frm (t.tick + by') = decide (lim < by') := by
    unfold goes
    rw [hgv, hlt1]
    by_cases g : lim < by' <;> simp [g] <;> omega
  have HGO := Lib.hid hgo
  have i0 : 0 ≤ t.tick + by' := by omega
  have i3 : t.tick + by' ≤ 2199023255552 := by omega
  clear hlt1 hgv hgo
  go_wp2_with fail
  by_cases gg : lim < by'
  · refine (HPY.out b v1 l1 lim t.frm (t.tick + by') w2 H1.out (by rw [HN1.out]; decide) (by rw [HGV.out]; exact ⟨g5, g6⟩) ⟨i0, i3⟩ (by rw [HGO.out]; exact decide_eq_true gg)).mono ?_
    rintro e w3 ⟨rfl, v2, l2, h2, hl2, hn2, ho2, hk3⟩
    have HK3 := Lib.hid (HK2.out.keep hk3 (fun h => h.elim (fun e => by omega) (fun e => by have := HO1.out _ e; omega)))
    have HB3 := Lib.hid (bkeep HB2.out hk3 (Nat.le_refl _) (fun k hk => hk.elim (fun e => by omega) (fun e => by have := HO1.out k e; omega)))
    have hl3 : lk l2 (-1) = none := by rw [hl2, if_neg (by omega), HL1.out, if_neg (by omega)]
    have H2 := Lib.hid h2
    have hC := HCL.out b v2 l2 lim (-1) w3 H2.out (by have := HN1.out; omega)
    have eg : gotV (none : Option Told) = ⟨0, 0, 0⟩ := rfl
    rw [hl3, eg] at hC
    have HC := Lib.hid hC
    clear q0 q1 q2 h2 hl2 hn2 ho2 hk3 hl3 hC eg
    go_wp2_with fail
    refine HC.out.mono ?_
    rintro e w4 ⟨rfl, hb4⟩
    have HB4 := Lib.hid (bmore HB3.out hb4 HB3.out.size)
    clear hb4
    go_wp2_with fail
    refine (HAW.out _).mono ?_
    rintro e w5 ⟨rfl, hb5⟩
    have hq := bmore (HB4.out.alloc HB4.out.size (.cells #[.int .i64 0, .int .i64 0, .int .u64 0] 34)) hb5 (HB4.out.alloc HB4.out.size _).size
    go_wp2
    go_ret
    refine ⟨?_, hq⟩
    first | rfl | (simp [gg]; done) | (simp [gg]; omega)
  · refine (HPN.out b v1 l1 lim t.frm (t.tick + by') w2 H1.out (by rw [HN1.out]; decide) (by rw [HGV.out]; exact ⟨g5, g6⟩) ⟨i0, i3⟩ (by rw [HGO.out]; exact decide_eq_false gg)).mono ?_
    rintro e w3 ⟨rfl, hb3⟩
    have HK3 := Lib.hid (HK2.out.below hb3)
    have HB3 := Lib.hid (bmore HB2.out hb3 HB2.out.size)
    have H2 := Lib.hid (H1.out.below hb3)
    have hC := HCL.out b v1 l1 lim t.frm w3 H2.out (by rw [HN1.out]; decide)
    rw [HGV.out, HLT.out] at hC
    have HC := Lib.hid hC
    clear q0 q1 q2 hb3 hC
    go_wp2_with fail
    refine HC.out.mono ?_
    rintro e w4 ⟨rfl, hb4⟩
    have HB4 := Lib.hid (bmore HB3.out hb4 HB3.out.size)
    have HK4 := Lib.hid (HK3.out.below hb4)
    obtain ⟨q0, q1, q2⟩ := blk3 HK4.out
    have hs4 : w.heap.size < w4.heap.size := HK4.out.lt
    clear hb4
    go_wp2_with fail
    refine (HAW.out _).mono ?_
    rintro e w5 ⟨rfl, hb5⟩
    have hq := bmore (HB4.out.alloc HB4.out.size (.cells #[.int .i64 t.frm, .int .i64 t.tick, .int .u64 t.rate] 34)) hb5 (HB4.out.alloc HB4.out.size _).size
    go_wp2
    go_ret
    refine ⟨?_, hq⟩
    first | rfl | (simp [gg]; done) | (simp [gg]; omega)
end Go.Proofs.Ythnnhagccemnnaa
