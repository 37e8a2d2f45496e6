/- clr: a report of a new receiver is taken in. -/
import Derived.Test.YthnnhagccemnnaaClr5
import Derived.Deep.RegionWith
namespace Go.Proofs.Ythnnhagccemnnaa
open Go.RowKit
set_option linter.unusedVariables false
set_option linter.unusedSimpArgs false
theorem BkAt.setV {w : World} {b : Nat} {v v' : Value} {l' : List Told} {lim c : Int} (hs : Blk w b #[.int .i64 lim, v, .int .i64 c] 54) (ho : w.ownsRow 0 34 3 v' l'.length (l'.flatMap toldCells)) (hr : Rising l') (hne : ∀ g, v'.ownBlock = some g → g ≠ b) : BkAt (w.setCell ⟨b, 1, none⟩ v') b v' l' lim c :=
  ⟨hs.set' (by simp), ownsRow_keep ho ((Keep.refl (fun k => k = b) w).setCell (.inl rfl) _) (fun g hg e => hne g hg e), hr⟩
theorem BkAt.setL' {w : World} {b g k n : Nat} {l : List Told} {lim c : Int} (hn : n = l.length) (h : BkAt w b (.slice (some ⟨g, 0, none⟩) n k) l lim c) {r : Nat} {o t : Told} (ho : l[r]? = some o) (he : o.frm = t.frm) :
    BkAt (((w.setCell ⟨g, r * 3, none⟩ (.int .i64 t.frm)).setCell ⟨g, r * 3 + 1, none⟩ (.int .i64 t.tick)).setCell ⟨g, r * 3 + 2, none⟩ (.int .u64 t.rate)) b (.slice (some ⟨g, 0, none⟩) n k) (l.set r t) lim c := by subst hn; exact h.setL ho he
theorem BkAt.one' {w : World} {b g k n : Nat} {l : List Told} {lim c : Int} (hn : n = l.length) (h : BkAt w b (.slice (some ⟨g, 0, none⟩) n k) l lim c) {r : Nat} {o : Told} (ho : l[r]? = some o) : w.cell? ⟨g, r * 3, none⟩ = some (.int .i64 o.frm) ∧ w.cell? ⟨g, r * 3 + 1, none⟩ = some (.int .i64 o.tick) ∧ w.cell? ⟨g, r * 3 + 2, none⟩ = some (.int .u64 o.rate) := by subst hn; exact h.one ho
theorem put_at {l : List Told} {t : Told} {p : Nat} (hp : p ≤ l.length) : (put1 l p t)[p]? = some t := by
  unfold put1
  rw [List.getElem?_append_right (by simp; omega)]
  simp [List.length_take, Nat.min_eq_left hp]
theorem keep_set3' {S : Nat → Prop} {w w1 : World} {g : Nat} (h : Keep S w w1) (hg : S g ∨ w.heap.size ≤ g) (v0 v1 v2 : Value) (o0 o1 o2 : Nat) : Keep S w (((w1.setCell ⟨g, o0, none⟩ v0).setCell ⟨g, o1, none⟩ v1).setCell ⟨g, o2, none⟩ v2) :=
  ((h.setCell (p := ⟨g, o0, none⟩) hg _).setCell (p := ⟨g, o1, none⟩) hg _).setCell (p := ⟨g, o2, none⟩) hg _
theorem told_one : ∀ x : Told, ∀ v ∈ toldCells x, v.oneCell' = true := by
  intro x v hv
  simp [toldCells] at hv
  rcases hv with rfl | rfl | rfl <;> rfl

set_option maxRecDepth 100000 in
set_option maxHeartbeats 2000000 in
theorem take_new (b : Nat) (v : Value) (l : List Told) (lim c now : Int) (t : Told) (w : World) (h : BkAt w b v l lim c) (hn : l.length ≤ 1000) (hm : mayE l lim t now = 0) (hs : (lk l t.frm).isSome = false) :
    Calls Try.prog 11 #[.pointer (some ⟨b, 0, none⟩), .agg #[.int .i64 t.frm, .int .i64 t.tick, .int .u64 t.rate], .int .i64 now] w fun e w' => e = .returned (.int .i64 0) ∧ Tk w w' b v l lim (tkC l c t) t := by
  have HM := Lib.hid (fun w h => may_any b v l lim c now t w h hn)
  have hba : Below w.heap.size w (w.alloc (.cells #[.int .i64 t.frm, .int .i64 t.tick, .int .u64 t.rate] 34)) := (Below.refl _ w).alloc (Nat.le_refl _) _
  have HBA := Lib.hid hba
  have H := Lib.hid h
  have HC := Lib.hid (fun w h => clr_any b v l lim c w h hn)
  have HF := Lib.hid (fun c w h => find_any b v l lim c t.frm w h hn)
  have HB := Lib.hid (Blk.new w #[.int .i64 t.frm, .int .i64 t.tick, .int .u64 t.rate] 34)
  have hbl : b < w.heap.size := h.str.lt
  obtain ⟨a0, a1, a2⟩ := blk3 HB.out
  clear hba h
  rw [hm] at HM
  rw [hs] at HF
  clear hm
  have HLK : Hid (lk l t.frm = none) := Lib.hid (by cases h : lk l t.frm <;> simp_all)
  unfold tkC
  generalize gotV (lk l c) = o at *
  generalize hso : (lk l c).isSome = s at *
  have key : ∀ (u : Bool), (!s || decide (t.rate < o.rate)) = u → Calls Try.prog 11 #[.pointer (some ⟨b, 0, none⟩), .agg #[.int .i64 t.frm, .int .i64 t.tick, .int .u64 t.rate], .int .i64 now] w fun e w' => e = .returned (.int .i64 0) ∧ Tk w w' b v l lim (if u then t.frm else c) t := by
    intro u hu
    go_enter Try.func11, Try.ntmps11
    go_wp2_with fail
    refine (HM.out _ (H.out.below HBA.out)).mono ?_
    rintro e w1 ⟨rfl, hb1⟩
    have HQ1 := Lib.hid (bmore HBA.out hb1 HBA.out.size)
    have HB1 := Lib.hid (HB.out.below hb1)
    have H1 := Lib.hid ((H.out.below HBA.out).below hb1)
    have hlt : w.heap.size < w1.heap.size := by have := hb1.size; simp at this; omega
    clear hb1
    go_wp2_with fail
    refine (HC.out _ H1.out).mono ?_
    rintro e w2 ⟨rfl, hb2⟩
    have HQ2 := Lib.hid (bmore HQ1.out hb2 HQ1.out.size)
    have HB2 := Lib.hid (HB1.out.below hb2)
    have H2 := Lib.hid (H1.out.below hb2)
    have hlt2 : w.heap.size < w2.heap.size := Nat.lt_of_lt_of_le hlt hb2.size
    obtain ⟨b0, b1, b2⟩ := blk3 HB2.out
    obtain ⟨c0, c1, c2⟩ := blk3 H2.out.str
    have fr := H2.out.str.frozen 2
    have hbl2 : b < w2.heap.size := H2.out.str.lt
    have hn1 : w.heap.size ≠ b := by omega
    have hn2 : b ≠ w.heap.size := by omega
    clear hb2 a0 a1 a2
    have hA1 : ∀ ob, BkAt ((w2.setCell ⟨b, 2, none⟩ (.int .i64 t.frm)).alloc ob) b v l lim t.frm ∧ Blk ((w2.setCell ⟨b, 2, none⟩ (.int .i64 t.frm)).alloc ob) w.heap.size #[.int .i64 t.frm, .int .i64 t.tick, .int .u64 t.rate] 34 ∧ Keep (fun k => k = b ∨ v.ownBlock = some k) w ((w2.setCell ⟨b, 2, none⟩ (.int .i64 t.frm)).alloc ob) := fun ob =>
      ⟨(H2.out.setC t.frm).below ((Below.refl _ _).alloc (Nat.le_refl _) ob), (HB2.out.setOther hn1 _).alloc ob, ((Keep.ofBelowAll HQ2.out).setCell (.inl (.inl rfl)) _).alloc ob⟩
    have hA2 : ∀ ob, BkAt (w2.alloc ob) b v l lim c ∧ Blk (w2.alloc ob) w.heap.size #[.int .i64 t.frm, .int .i64 t.tick, .int .u64 t.rate] 34 ∧ Keep (fun k => k = b ∨ v.ownBlock = some k) w (w2.alloc ob) := fun ob =>
      ⟨H2.out.below ((Below.refl _ _).alloc (Nat.le_refl _) ob), HB2.out.alloc ob, (Keep.ofBelowAll HQ2.out).alloc ob⟩
    have A1 := Lib.hid hA1
    have A2 := Lib.hid hA2
    clear hA1 hA2
    cases s
    · obtain rfl : u = true := by simpa using hu.symm
      go_wp2_with fail
      refine (HF.out t.frm _ (A1.out _).1).mono ?_
      rintro e w3 ⟨p, hp, rfl, hb3⟩
      have H3 := (A1.out _).1.below hb3
      have HB3 := (A1.out _).2.1.below hb3
      have K3 := (A1.out _).2.2.trans (Keep.none hb3) (fun _ _ h => h.elim)
      have hlt3 : w.heap.size < w3.heap.size := HB3.lt
      clear hb3
      obtain ⟨x0, x1, x2⟩ := blk3 HB3
      obtain ⟨y0, y1, y2⟩ := blk3 H3.str
      have fy := H3.str.frozen 1
      have i1 : (0 : Int) ≤ (p : Int) := by omega
      have hple : p ≤ l.length := hp.le
      have K3' := Lib.hid K3
      have HP := Lib.hid hp
      have H3' := Lib.hid H3
      have HB3' := Lib.hid HB3
      clear H3 K3 HB3 hp b0 b1 b2 c0 c1 c2 fr
      have hob : v.ownBlock ≠ some b := fun e => (H.out.ne e).1 rfl
      have hoo : v.ownBlock ≠ some w.heap.size := fun e => by have := (H.out.ne e).2; omega
      have hov : v.ownBlock ≠ some w3.heap.size := fun e => by have := (H3'.out.ne e).2; omega
      have hB4 : Blk (w3.alloc (.cells #[.int .i64 t.frm, .int .i64 t.tick, .int .u64 t.rate] 34)).drew w.heap.size #[.int .i64 t.frm, .int .i64 t.tick, .int .u64 t.rate] 34 := (HB3'.out.alloc _).drew
      have hH4 : BkAt (w3.alloc (.cells #[.int .i64 t.frm, .int .i64 t.tick, .int .u64 t.rate] 34)).drew b v l lim _ := (H3'.out.below ((Below.refl _ w3).alloc (Nat.le_refl _) (.cells #[.int .i64 t.frm, .int .i64 t.tick, .int .u64 t.rate] 34))).drew
      obtain ⟨n1, hn1⟩ : ∃ n1, n1 = l.length + 1 := ⟨_, rfl⟩
      have hI := insert_told 0 w3.heap.size p v l t _ told_one hple (by omega) (Nat.zero_le _) hH4.row ((Blk.new w3 #[.int .i64 t.frm, .int .i64 t.tick, .int .u64 t.rate] 34).drew) hov
      rw [← hn1] at hI
      have HN1 := Lib.hid hn1
      have HI := Lib.hid hI
      have i2 : (p : Int) < (n1 : Int) := by omega
      have HRS := Lib.hid (put_rising (t := t) H3'.out.ris HP.out HLK.out)
      have HSL := Lib.hid (fun r => put_lk (t := t) H3'.out.ris HP.out HLK.out r)
      have HPL := Lib.hid (put_len (t := t) hple)
      have HPA := Lib.hid (put_at (t := t) hple)
      have HB4 := Lib.hid hB4
      have HH4 := Lib.hid hH4
      obtain ⟨u0, u1, u2⟩ := blk3 hB4
      obtain ⟨q0, q1, q2⟩ := blk3 hH4.str
      clear hI hB4 hH4 hn1
      go_wp2_with fail
      go_region_with (go_at_call 20; refine HI.out.mono ?_; rintro e w4 ⟨A, cc, rfl, ho, hk, hno⟩; have hs4 := HH4.out.str.keep hk hob; have hx4 := HB4.out.keep hk hoo; have d := And.intro (blk3 hs4).2.1 (blk3 hx4); have fy4 := hs4.frozen 1; have HS4 := Lib.hid hs4; have HX4 := Lib.hid hx4; have HO := Lib.hid ho; have HK := Lib.hid hk; have HNO := Lib.hid hno; clear hs4 hx4 ho hk hno)
      all_goals
        have hne' : ∀ g, (Value.slice A n1 cc).ownBlock = some g → g ≠ b := fun g hg e => by
          rcases HNO.out g hg with h | h
          · exact hob (e ▸ h)
          · have := H3'.out.str.lt
            simp at h
            omega
        rcases HO.out.2 with ⟨hv0, hx⟩ | ⟨g, cap, cur, hv, hgg⟩
        · have := HN1.out; omega
        cases hv
        have ho1 := HO.out
        have hH5 := BkAt.setV HS4.out (by rw [HPL.out, ← HN1.out]; exact ho1) HRS.out hne'
        have hB5 := HX4.out.setOther hn1 (p := ⟨b, 1, none⟩) (.slice (some ⟨g, 0, none⟩) n1 cc)
        have hK5 : Keep (fun k => k = b ∨ v.ownBlock = some k) w (w4.setCell ⟨b, 1, none⟩ (.slice (some ⟨g, 0, none⟩) n1 cc)) := ((Keep.drew (K3'.out.alloc _)).trans HK.out (fun k _ h => .inr h)).setCell (p := ⟨b, 1, none⟩) (.inl (.inl rfl)) _
        have hG : v.ownBlock = some g ∨ w.heap.size ≤ g := (HNO.out g rfl).imp id (fun h => by simp at h; omega)
        generalize w4.setCell ⟨b, 1, none⟩ (.slice (some ⟨g, 0, none⟩) n1 cc) = w5 at *
        have hne : n1 = (put1 l p t).length := by rw [HPL.out, HN1.out]
        obtain ⟨v0, v1, v2⟩ := blk3 hB5
        obtain ⟨s0, s1, s2⟩ := blk3 hH5.str
        obtain ⟨z0, z1, z2⟩ := hH5.one' hne HPA.out
        have f0 := ownsRow_frozen hH5.row (p * 3)
        have f1 := ownsRow_frozen hH5.row (p * 3 + 1)
        have f2 := ownsRow_frozen hH5.row (p * 3 + 2)
        have H6 := Lib.hid (hH5.setL' hne HPA.out rfl).drew
        have K5 := Lib.hid hK5
        have HG := Lib.hid hG
        clear hne' ho1 hH5 hB5 hK5 hG hne d fy4 x0 x1 x2 y0 y1 y2 u0 u1 u2 q0 q1 q2
        go_wp2_with fail
        go_region
        go_wp2
        go_ret
        have hln : ((put1 l p t).set p t).length = (if (lk l t.frm).isSome then l.length else l.length + 1) := by rw [List.length_set, hs, if_neg (by decide), HPL.out]
        refine ⟨rfl, ⟨⟨.slice (some ⟨g, 0, none⟩) n1 cc, (put1 l p t).set p t, ?_, fun r => ?_, hln, fun g' h => by cases h; rcases HG.out with h | h; exact .inl h; exact .inr h⟩, ?_⟩⟩
        · exact H6.out
        · rw [set_lk HRS.out HPA.out rfl, HSL.out r]; split <;> rfl
        · exact Keep.drew (keep_set3' K5.out (HG.out.imp (fun h => .inr h) id) _ _ _ _ _ _)
    · cases u
      · have hu : ¬ t.rate < o.rate := by simpa using hu
        go_wp2_with fail
        refine (HF.out c _ (A2.out _).1).mono ?_
        rintro e w3 ⟨p, hp, rfl, hb3⟩
        have H3 := (A2.out _).1.below hb3
        have HB3 := (A2.out _).2.1.below hb3
        have K3 := (A2.out _).2.2.trans (Keep.none hb3) (fun _ _ h => h.elim)
        have hlt3 : w.heap.size < w3.heap.size := HB3.lt
        clear hb3
        obtain ⟨x0, x1, x2⟩ := blk3 HB3
        obtain ⟨y0, y1, y2⟩ := blk3 H3.str
        have fy := H3.str.frozen 1
        have i1 : (0 : Int) ≤ (p : Int) := by omega
        have hple : p ≤ l.length := hp.le
        have K3' := Lib.hid K3
        have HP := Lib.hid hp
        have H3' := Lib.hid H3
        have HB3' := Lib.hid HB3
        clear H3 K3 HB3 hp b0 b1 b2 c0 c1 c2 fr
        have hob : v.ownBlock ≠ some b := fun e => (H.out.ne e).1 rfl
        have hoo : v.ownBlock ≠ some w.heap.size := fun e => by have := (H.out.ne e).2; omega
        have hov : v.ownBlock ≠ some w3.heap.size := fun e => by have := (H3'.out.ne e).2; omega
        have hB4 : Blk (w3.alloc (.cells #[.int .i64 t.frm, .int .i64 t.tick, .int .u64 t.rate] 34)).drew w.heap.size #[.int .i64 t.frm, .int .i64 t.tick, .int .u64 t.rate] 34 := (HB3'.out.alloc _).drew
        have hH4 : BkAt (w3.alloc (.cells #[.int .i64 t.frm, .int .i64 t.tick, .int .u64 t.rate] 34)).drew b v l lim _ := (H3'.out.below ((Below.refl _ w3).alloc (Nat.le_refl _) (.cells #[.int .i64 t.frm, .int .i64 t.tick, .int .u64 t.rate] 34))).drew
        obtain ⟨n1, hn1⟩ : ∃ n1, n1 = l.length + 1 := ⟨_, rfl⟩
        have hI := insert_told 0 w3.heap.size p v l t _ told_one hple (by omega) (Nat.zero_le _) hH4.row ((Blk.new w3 #[.int .i64 t.frm, .int .i64 t.tick, .int .u64 t.rate] 34).drew) hov
        rw [← hn1] at hI
        have HN1 := Lib.hid hn1
        have HI := Lib.hid hI
        have i2 : (p : Int) < (n1 : Int) := by omega
        have HRS := Lib.hid (put_rising (t := t) H3'.out.ris HP.out HLK.out)
        have HSL := Lib.hid (fun r => put_lk (t := t) H3'.out.ris HP.out HLK.out r)
        have HPL := Lib.hid (put_len (t := t) hple)
        have HPA := Lib.hid (put_at (t := t) hple)
        have HB4 := Lib.hid hB4
        have HH4 := Lib.hid hH4
        obtain ⟨u0, u1, u2⟩ := blk3 hB4
        obtain ⟨q0, q1, q2⟩ := blk3 hH4.str
        clear hI hB4 hH4 hn1
        go_wp2_with fail
        go_region_with (go_at_call 20; refine HI.out.mono ?_; rintro e w4 ⟨A, cc, rfl, ho, hk, hno⟩; have hs4 := HH4.out.str.keep hk hob; have hx4 := HB4.out.keep hk hoo; have d := And.intro (blk3 hs4).2.1 (blk3 hx4); have fy4 := hs4.frozen 1; have HS4 := Lib.hid hs4; have HX4 := Lib.hid hx4; have HO := Lib.hid ho; have HK := Lib.hid hk; have HNO := Lib.hid hno; clear hs4 hx4 ho hk hno)
        all_goals
          have hne' : ∀ g, (Value.slice A n1 cc).ownBlock = some g → g ≠ b := fun g hg e => by
            rcases HNO.out g hg with h | h
            · exact hob (e ▸ h)
            · have := H3'.out.str.lt
              simp at h
              omega
          rcases HO.out.2 with ⟨hv0, hx⟩ | ⟨g, cap, cur, hv, hgg⟩
          · have := HN1.out; omega
          cases hv
          have ho1 := HO.out
          have hH5 := BkAt.setV HS4.out (by rw [HPL.out, ← HN1.out]; exact ho1) HRS.out hne'
          have hB5 := HX4.out.setOther hn1 (p := ⟨b, 1, none⟩) (.slice (some ⟨g, 0, none⟩) n1 cc)
          have hK5 : Keep (fun k => k = b ∨ v.ownBlock = some k) w (w4.setCell ⟨b, 1, none⟩ (.slice (some ⟨g, 0, none⟩) n1 cc)) := ((Keep.drew (K3'.out.alloc _)).trans HK.out (fun k _ h => .inr h)).setCell (p := ⟨b, 1, none⟩) (.inl (.inl rfl)) _
          have hG : v.ownBlock = some g ∨ w.heap.size ≤ g := (HNO.out g rfl).imp id (fun h => by simp at h; omega)
          generalize w4.setCell ⟨b, 1, none⟩ (.slice (some ⟨g, 0, none⟩) n1 cc) = w5 at *
          have hne : n1 = (put1 l p t).length := by rw [HPL.out, HN1.out]
          obtain ⟨v0, v1, v2⟩ := blk3 hB5
          obtain ⟨s0, s1, s2⟩ := blk3 hH5.str
          obtain ⟨z0, z1, z2⟩ := hH5.one' hne HPA.out
          have f0 := ownsRow_frozen hH5.row (p * 3)
          have f1 := ownsRow_frozen hH5.row (p * 3 + 1)
          have f2 := ownsRow_frozen hH5.row (p * 3 + 2)
          have H6 := Lib.hid (hH5.setL' hne HPA.out rfl).drew
          have K5 := Lib.hid hK5
          have HG := Lib.hid hG
          clear hne' ho1 hH5 hB5 hK5 hG hne d fy4 x0 x1 x2 y0 y1 y2 u0 u1 u2 q0 q1 q2
          go_wp2_with fail
          go_region
          go_wp2
          go_ret
          have hln : ((put1 l p t).set p t).length = (if (lk l t.frm).isSome then l.length else l.length + 1) := by rw [List.length_set, hs, if_neg (by decide), HPL.out]
          refine ⟨rfl, ⟨⟨.slice (some ⟨g, 0, none⟩) n1 cc, (put1 l p t).set p t, ?_, fun r => ?_, hln, fun g' h => by cases h; rcases HG.out with h | h; exact .inl h; exact .inr h⟩, ?_⟩⟩
          · exact H6.out
          · rw [set_lk HRS.out HPA.out rfl, HSL.out r]; split <;> rfl
          · exact Keep.drew (keep_set3' K5.out (HG.out.imp (fun h => .inr h) id) _ _ _ _ _ _)
      · have hu : t.rate < o.rate := by simpa using hu
        go_wp2_with fail
        refine (HF.out t.frm _ (A1.out _).1).mono ?_
        rintro e w3 ⟨p, hp, rfl, hb3⟩
        have H3 := (A1.out _).1.below hb3
        have HB3 := (A1.out _).2.1.below hb3
        have K3 := (A1.out _).2.2.trans (Keep.none hb3) (fun _ _ h => h.elim)
        have hlt3 : w.heap.size < w3.heap.size := HB3.lt
        clear hb3
        obtain ⟨x0, x1, x2⟩ := blk3 HB3
        obtain ⟨y0, y1, y2⟩ := blk3 H3.str
        have fy := H3.str.frozen 1
        have i1 : (0 : Int) ≤ (p : Int) := by omega
        have hple : p ≤ l.length := hp.le
        have K3' := Lib.hid K3
        have HP := Lib.hid hp
        have H3' := Lib.hid H3
        have HB3' := Lib.hid HB3
        clear H3 K3 HB3 hp b0 b1 b2 c0 c1 c2 fr
        have hob : v.ownBlock ≠ some b := fun e => (H.out.ne e).1 rfl
        have hoo : v.ownBlock ≠ some w.heap.size := fun e => by have := (H.out.ne e).2; omega
        have hov : v.ownBlock ≠ some w3.heap.size := fun e => by have := (H3'.out.ne e).2; omega
        have hB4 : Blk (w3.alloc (.cells #[.int .i64 t.frm, .int .i64 t.tick, .int .u64 t.rate] 34)).drew w.heap.size #[.int .i64 t.frm, .int .i64 t.tick, .int .u64 t.rate] 34 := (HB3'.out.alloc _).drew
        have hH4 : BkAt (w3.alloc (.cells #[.int .i64 t.frm, .int .i64 t.tick, .int .u64 t.rate] 34)).drew b v l lim _ := (H3'.out.below ((Below.refl _ w3).alloc (Nat.le_refl _) (.cells #[.int .i64 t.frm, .int .i64 t.tick, .int .u64 t.rate] 34))).drew
        obtain ⟨n1, hn1⟩ : ∃ n1, n1 = l.length + 1 := ⟨_, rfl⟩
        have hI := insert_told 0 w3.heap.size p v l t _ told_one hple (by omega) (Nat.zero_le _) hH4.row ((Blk.new w3 #[.int .i64 t.frm, .int .i64 t.tick, .int .u64 t.rate] 34).drew) hov
        rw [← hn1] at hI
        have HN1 := Lib.hid hn1
        have HI := Lib.hid hI
        have i2 : (p : Int) < (n1 : Int) := by omega
        have HRS := Lib.hid (put_rising (t := t) H3'.out.ris HP.out HLK.out)
        have HSL := Lib.hid (fun r => put_lk (t := t) H3'.out.ris HP.out HLK.out r)
        have HPL := Lib.hid (put_len (t := t) hple)
        have HPA := Lib.hid (put_at (t := t) hple)
        have HB4 := Lib.hid hB4
        have HH4 := Lib.hid hH4
        obtain ⟨u0, u1, u2⟩ := blk3 hB4
        obtain ⟨q0, q1, q2⟩ := blk3 hH4.str
        clear hI hB4 hH4 hn1
        go_wp2_with fail
        go_region_with (go_at_call 20; refine HI.out.mono ?_; rintro e w4 ⟨A, cc, rfl, ho, hk, hno⟩; have hs4 := HH4.out.str.keep hk hob; have hx4 := HB4.out.keep hk hoo; have d := And.intro (blk3 hs4).2.1 (blk3 hx4); have fy4 := hs4.frozen 1; have HS4 := Lib.hid hs4; have HX4 := Lib.hid hx4; have HO := Lib.hid ho; have HK := Lib.hid hk; have HNO := Lib.hid hno; clear hs4 hx4 ho hk hno)
        all_goals
          have hne' : ∀ g, (Value.slice A n1 cc).ownBlock = some g → g ≠ b := fun g hg e => by
            rcases HNO.out g hg with h | h
            · exact hob (e ▸ h)
            · have := H3'.out.str.lt
              simp at h
              omega
          rcases HO.out.2 with ⟨hv0, hx⟩ | ⟨g, cap, cur, hv, hgg⟩
          · have := HN1.out; omega
          cases hv
          have ho1 := HO.out
          have hH5 := BkAt.setV HS4.out (by rw [HPL.out, ← HN1.out]; exact ho1) HRS.out hne'
          have hB5 := HX4.out.setOther hn1 (p := ⟨b, 1, none⟩) (.slice (some ⟨g, 0, none⟩) n1 cc)
          have hK5 : Keep (fun k => k = b ∨ v.ownBlock = some k) w (w4.setCell ⟨b, 1, none⟩ (.slice (some ⟨g, 0, none⟩) n1 cc)) := ((Keep.drew (K3'.out.alloc _)).trans HK.out (fun k _ h => .inr h)).setCell (p := ⟨b, 1, none⟩) (.inl (.inl rfl)) _
          have hG : v.ownBlock = some g ∨ w.heap.size ≤ g := (HNO.out g rfl).imp id (fun h => by simp at h; omega)
          generalize w4.setCell ⟨b, 1, none⟩ (.slice (some ⟨g, 0, none⟩) n1 cc) = w5 at *
          have hne : n1 = (put1 l p t).length := by rw [HPL.out, HN1.out]
          obtain ⟨v0, v1, v2⟩ := blk3 hB5
          obtain ⟨s0, s1, s2⟩ := blk3 hH5.str
          obtain ⟨z0, z1, z2⟩ := hH5.one' hne HPA.out
          have f0 := ownsRow_frozen hH5.row (p * 3)
          have f1 := ownsRow_frozen hH5.row (p * 3 + 1)
          have f2 := ownsRow_frozen hH5.row (p * 3 + 2)
          have H6 := Lib.hid (hH5.setL' hne HPA.out rfl).drew
          have K5 := Lib.hid hK5
          have HG := Lib.hid hG
          clear hne' ho1 hH5 hB5 hK5 hG hne d fy4 x0 x1 x2 y0 y1 y2 u0 u1 u2 q0 q1 q2
          go_wp2_with fail
          go_region
          go_wp2
          go_ret
          have hln : ((put1 l p t).set p t).length = (if (lk l t.frm).isSome then l.length else l.length + 1) := by rw [List.length_set, hs, if_neg (by decide), HPL.out]
          refine ⟨rfl, ⟨⟨.slice (some ⟨g, 0, none⟩) n1 cc, (put1 l p t).set p t, ?_, fun r => ?_, hln, fun g' h => by cases h; rcases HG.out with h | h; exact .inl h; exact .inr h⟩, ?_⟩⟩
          · exact H6.out
          · rw [set_lk HRS.out HPA.out rfl, HSL.out r]; split <;> rfl
          · exact Keep.drew (keep_set3' K5.out (HG.out.imp (fun h => .inr h) id) _ _ _ _ _ _)
  refine (key _ rfl).mono ?_
  rintro e w' ⟨rfl, h⟩
  refine ⟨rfl, ?_⟩
  have e : (if s = false ∨ t.rate < o.rate then t.frm else c) = if (!s || decide (t.rate < o.rate)) = true then t.frm else c := by
    cases s <;> by_cases g : t.rate < o.rate <;> simp [g]
  rw [e]
  exact h
end Go.Proofs.Ythnnhagccemnnaa
