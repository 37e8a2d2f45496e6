/- clr: awake. -/
import Derived.Test.YthnnhagccemnnaaClr7
namespace Go.Proofs.Ythnnhagccemnnaa
open Go.RowKit
set_option linter.unusedVariables false
set_option linter.unusedSimpArgs false

set_option maxRecDepth 100000 in
set_option maxHeartbeats 2000000 in
theorem awake_any (w : World) : Calls Try.prog 7 #[] w fun e w' => e = .returned (.bool true) ∧ Below w.heap.size w w' := by
  have HNW := Lib.hid (new_ok 20 w (by decide) (by decide))
  have HNN := Lib.hid (fun w => new_no 0 w (by decide))
  have HTK := Lib.hid @take_ok
  have HTN := Lib.hid @take_no
  have HCL := Lib.hid @clr_any
  have HCN := Lib.hid @count_any
  go_enter Try.func7, Try.ntmps7
  go_wp2_with fail
  refine HNW.out.mono ?_
  rintro e w1 ⟨b, v, rfl, h0, hb, hv, hb1⟩
  have H0 := Lib.hid h0
  have HB := Lib.hid hb
  have HV := Lib.hid hv
  have HB1 := Lib.hid hb1
  clear h0 hb hv hb1
  go_wp2_with fail
  refine (HTK.out b v [] 20 (-1) 5 ⟨1, 5, 10⟩ w1 H0.out (by decide) (by decide)).mono ?_
  rintro e w2 ⟨rfl, ⟨⟨v1, l1, h1, hl1, hn1, ho1⟩, hk1⟩⟩
  have e0 : tkC [] (-1) ⟨1, 5, 10⟩ = 1 := by decide
  rw [e0] at h1
  have hl1 : ∀ r, lk l1 r = if r = 1 then some ⟨1, 5, 10⟩ else none := fun r => hl1 r
  have hn1 : l1.length = 1 := hn1
  have HL1 := Lib.hid hl1
  have HN1 := Lib.hid hn1
  have HO1 := Lib.hid (fun g hg => (ho1 g hg).elim (HV.out g) (fun h => Nat.le_trans HB1.out.size h))
  have HB2 := Lib.hid (bkeep HB1.out hk1 (Nat.le_refl _) (fun k hk => hk.elim (fun e => e ▸ HB.out) (HV.out k)))
  have H1 := Lib.hid h1
  clear h1 hl1 hn1 ho1 hk1 e0
  go_wp2_with fail
  have m1 : mayE l1 20 ⟨2, 6, 8⟩ 6 = 0 := by unfold mayE; rw [HL1.out]; decide
  have e1 : tkC l1 1 ⟨2, 6, 8⟩ = 2 := by unfold tkC; rw [HL1.out]; decide
  refine (HTK.out b v1 l1 20 1 6 ⟨2, 6, 8⟩ w2 H1.out (by rw [HN1.out]; decide) m1).mono ?_
  rintro e w3 ⟨rfl, ⟨⟨v2, l2, h2, hl2, hn2, ho2⟩, hk2⟩⟩
  rw [e1] at h2
  have hn2 : l2.length = 2 := by rw [hn2, HL1.out, HN1.out]; decide
  have hl2' : lk l2 2 = some ⟨2, 6, 8⟩ := by rw [hl2]; rfl
  have HL2 := Lib.hid hl2'
  have HN2 := Lib.hid hn2
  have HO2 := Lib.hid (fun g hg => (ho2 g hg).elim (HO1.out g) (fun h => Nat.le_trans HB2.out.size h))
  have HB3 := Lib.hid (bkeep HB2.out hk2 (Nat.le_refl _) (fun k hk => hk.elim (fun e => e ▸ HB.out) (HO1.out k)))
  have H2 := Lib.hid h2
  clear h2 hl2 hl2' hn2 ho2 hk2 e1 m1
  go_wp2_with fail
  have m2 : mayE l2 20 ⟨2, 7, 20⟩ 7 = 0 := by unfold mayE; rw [HL2.out]; decide
  have e2 : tkC l2 2 ⟨2, 7, 20⟩ = 2 := by unfold tkC; rw [HL2.out]; decide
  refine (HTK.out b v2 l2 20 2 7 ⟨2, 7, 20⟩ w3 H2.out (by rw [HN2.out]; decide) m2).mono ?_
  rintro e w4 ⟨rfl, ⟨⟨v3, l3, h3, hl3, hn3, ho3⟩, hk3⟩⟩
  rw [e2] at h3
  have hn3 : l3.length = 2 := by rw [hn3, HL2.out, HN2.out]; decide
  have hl3' : lk l3 2 = some ⟨2, 7, 20⟩ := by rw [hl3]; rfl
  have HL3 := Lib.hid hl3'
  have HN3 := Lib.hid hn3
  have HB4 := Lib.hid (bkeep HB3.out hk3 (Nat.le_refl _) (fun k hk => hk.elim (fun e => e ▸ HB.out) (HO2.out k)))
  have H3 := Lib.hid h3
  clear h3 hl3 hl3' hn3 ho3 hk3 e2 m2
  go_wp2_with fail
  have hc := HCL.out b v3 l3 20 2 w4 H3.out (by rw [HN3.out]; decide)
  have eg : gotV (some (⟨2, 7, 20⟩ : Told)) = ⟨2, 7, 20⟩ := rfl
  rw [HL3.out, eg] at hc
  refine hc.mono ?_
  rintro e w5 ⟨rfl, hb5⟩
  have H4 := Lib.hid (H3.out.below hb5)
  have HB5 := Lib.hid (bmore HB4.out hb5 HB4.out.size)
  clear hb5 hc
  go_wp2_with fail
  refine (HNN.out _).mono ?_
  rintro e w6 ⟨rfl, rfl⟩
  go_wp2_with fail
  have m3 : mayE l3 20 ⟨2, 6, 0⟩ 8 = 23 := by unfold mayE; rw [HL3.out]; decide
  have hbx : Below w5.heap.size w5 (w5.alloc (.cells #[.int .i64 2, .int .i64 7, .int .u64 20] 34)) := (Below.refl _ w5).alloc (Nat.le_refl _) _
  have hq := HTN.out b v3 l3 20 2 8 ⟨2, 6, 0⟩ _ (H4.out.below hbx) (by rw [HN3.out]; decide) (by rw [m3]; decide)
  rw [m3] at hq
  refine hq.mono ?_
  rintro e w7 ⟨rfl, hb7⟩
  have H5 := Lib.hid ((H4.out.below hbx).below hb7)
  have HB7 := Lib.hid (bmore (bmore HB5.out hbx HB5.out.size) hb7 (Nat.le_trans HB5.out.size hbx.size))
  clear m3 hbx hq hb7 
  go_wp2_with fail
  have hk := HCN.out b v3 l3 20 2 w7 H5.out
  rw [HN3.out] at hk
  refine hk.mono ?_
  rintro e w8 ⟨rfl, rfl⟩
  clear hk
  go_wp2
  go_ret
  exact ⟨rfl, HB7.out⟩
end Go.Proofs.Ythnnhagccemnnaa
