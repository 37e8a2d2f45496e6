/- simnet: the model's give. -/
import Derived.Test.YtlodiibmofeikaaQNetMd
import Derived.Test.YtlodiibmofeikaaQBB
namespace Go.Proofs.Ytlodiibmofeikaa
open Go.RowKit
set_option linter.unusedVariables false
set_option linter.unusedSimpArgs false
/-- what the model's give leaves -/
structure MgR (w w' : World) (G : Nat → Prop) (m m' : MD) (asks : List AskD) (Xs : List (List RM)) (F : List FD) (p : Nat) (X' : List RM) (s' : StN) : Prop where
  ex : ∃ vs', MdAt w' (fun q => G q ∨ w.heap.size ≤ q) m' asks vs' (Xs.set p X') F
  same : m'.rc = m.rc ∧ m'.delay = m.delay ∧ m'.room = m.room ∧ m'.j = m.j ∧ m'.lv = m.lv ∧ m'.av = m.av ∧ m'.fv = m.fv
  used : m'.used = usedN F m.used
  st : m'.s = s'
  bel : Below w.heap.size w w'
theorem boxesM (w : World) (a b c : Array Value) (Ta Tb Tc : TypeId) :
    let w' := ((w.alloc (.cells a Ta)).alloc (.cells b Tb)).alloc (.cells c Tc)
    Blk w' w.heap.size a Ta ∧ Blk w' (w.heap.size + 1) b Tb ∧ Blk w' (w.heap.size + 1 + 1) c Tc ∧ Below w.heap.size w w' ∧ w'.heap.size = w.heap.size + 1 + 1 + 1 := boxes3' w a b c Ta Tb Tc
theorem blk15 {w : World} {b : Nat} {v0 v1 v2 v3 v4 v5 v6 v7 v8 v9 v10 v11 v12 v13 v14 : Value} {T : TypeId} (h : Blk w b #[v0, v1, v2, v3, v4, v5, v6, v7, v8, v9, v10, v11, v12, v13, v14] T) : w.cell? ⟨b, 0, none⟩ = some v0 ∧ w.cell? ⟨b, 1, none⟩ = some v1 ∧ w.cell? ⟨b, 2, none⟩ = some v2 ∧ w.cell? ⟨b, 3, none⟩ = some v3 ∧ w.cell? ⟨b, 4, none⟩ = some v4 ∧ w.cell? ⟨b, 5, none⟩ = some v5 ∧ w.cell? ⟨b, 6, none⟩ = some v6 ∧ w.cell? ⟨b, 7, none⟩ = some v7 ∧ w.cell? ⟨b, 8, none⟩ = some v8 ∧ w.cell? ⟨b, 9, none⟩ = some v9 ∧ w.cell? ⟨b, 10, none⟩ = some v10 ∧ w.cell? ⟨b, 11, none⟩ = some v11 ∧ w.cell? ⟨b, 12, none⟩ = some v12 ∧ w.cell? ⟨b, 13, none⟩ = some v13 ∧ w.cell? ⟨b, 14, none⟩ = some v14 :=
  ⟨h.cell 0 rfl, h.cell 1 rfl, h.cell 2 rfl, h.cell 3 rfl, h.cell 4 rfl, h.cell 5 rfl, h.cell 6 rfl, h.cell 7 rfl, h.cell 8 rfl, h.cell 9 rfl, h.cell 10 rfl, h.cell 11 rfl, h.cell 12 rfl, h.cell 13 rfl, h.cell 14 rfl⟩
set_option maxRecDepth 100000 in
set_option maxHeartbeats 4000000 in
theorem mgive_yes (m : MD) (asks : List AskD) (vs : List Value) (Xs : List (List RM)) (F : List FD) (G : Nat → Prop) (p : Nat) (X : List RM) (now : Int) (bs : List Int) (w : World) (hm : MdAt w G m asks vs Xs F) (hX : Xs[p]? = some X) (hn : X.length ≤ 80000) (hbt : BtsI bs) (hbl : bs.length ≤ 100000) (hs : StB 800000 m.s) (hF : F.length ≤ 100000) (hu : m.used ≤ 100000) (hvs : vs.length ≤ 1000) (hd : 0 ≤ m.delay ∧ m.delay ≤ 64) (hw : 0 ≤ now ∧ now ≤ 1099511627776) (hlt : m.used < F.length) :
    Calls Try.prog 35 #[.agg (modC m), .int .i64 (p : Int), .int .i64 now, .string (strOfNums bs)] w fun e w' => ∃ m', e = .returned (.agg (modC m')) ∧ MgR w w' G m m' asks Xs F p (giveX m.room (now + m.delay) bs (fateOf F m.used) X m.s).1 (giveX m.room (now + m.delay) bs (fateOf F m.used) X m.s).2 := by
  obtain ⟨i0, hi0, hz0, hz1, hz2⟩ := info_parts info_lists
  have HI0 := Lib.hid hi0
  have HZ0 := Lib.hid hz0
  have HZ1 := Lib.hid hz1
  have HZ2 := Lib.hid hz2
  have HM := Lib.hid hm
  obtain ⟨gx, hgx⟩ : ∃ gx, gx = giveX m.room (now + m.delay) bs (fateOf F m.used) X m.s := ⟨_, rfl⟩
  rw [← hgx]
  obtain ⟨fk, hfk⟩ : ∃ k, k = (fateOf F m.used).kind := ⟨_, rfl⟩
  obtain ⟨fn, hfn⟩ : ∃ k, k = (fateOf F m.used).n := ⟨_, rfl⟩
  have hff : fateOf F m.used = ⟨fk, fn⟩ := by rw [hfk, hfn]
  have HU : Hid (usedN F m.used = m.used + 1) := by show _ = _; unfold usedN; rw [if_pos hlt]
  obtain ⟨v, hv⟩ : ∃ v, vs[p]? = some v := ⟨_, List.getElem?_eq_getElem (by rw [hm.len]; exact (List.getElem?_eq_some_iff.1 hX).1)⟩
  have HV := Lib.hid hv
  have HEX := Lib.hid (hm.each p v X hv hX)
  have hpl : p < vs.length := (List.getElem?_eq_some_iff.1 hv).1
  obtain ⟨xA, xc, hxv⟩ := ownsRow_slice (hm.each p v X hv hX).1
  obtain ⟨xn, hxn⟩ : ∃ n, n = X.length := ⟨_, rfl⟩
  rw [← hxn] at hxv
  have HXN := Lib.hid hxn
  subst hxv
  have HGV := Lib.hid (fun w hx => refgive_any m.room (now + m.delay) (.slice xA xn xc) X bs ⟨fk, fn⟩ m.s w hx (by omega) hbt hbl (hs.mono (by omega)) (by omega))
  rw [← hff, ← hgx] at HGV
  unfold stV at HGV
  rw [hff] at HGV
  have HGX := Lib.hid hgx
  obtain ⟨mrc, mdl, mro, mj, mlv, mav, mlsv, mfv, mu, ms⟩ := m
  dsimp only at *
  obtain ⟨aA, ac, rfl⟩ := ownsRow_slice hm.asks
  obtain ⟨lA, lc, rfl⟩ := ownsRow_slice hm.lists
  obtain ⟨fA, fc, rfl, -⟩ := hm.fates.val
  obtain ⟨n, hnn⟩ : ∃ n, n = vs.length := ⟨_, rfl⟩
  obtain ⟨an, han⟩ : ∃ n, n = asks.length := ⟨_, rfl⟩
  obtain ⟨T, hT⟩ : ∃ T, T = strOfNums bs := ⟨_, rfl⟩
  have HNN := Lib.hid hnn
  have HAN := Lib.hid han
  rw [← hT] at HGV ⊢
  have j1 : (0 : Int) ≤ (p : Int) := by omega
  have j2 : (p : Int) < (n : Int) := by omega
  have HWR : Hid (IntKind.i64.wrap (now + mdl) = now + mdl) := IntWalk.i64_in _ (by omega)
  unfold modC
  dsimp only
  have hn1 : n ≤ 1000 := by omega
  rw [← hnn, ← han]
  have hlw := hm.lists
  rw [← hnn] at hlw
  have HLW := Lib.hid hlw
  obtain ⟨g, q, c', he, hcc⟩ := Reads.elem hm.fates fateCells_len (by omega) (show F[mu]? = some ⟨fk, fn⟩ by
    have h1 : fateOf F mu = ⟨fk, fn⟩ := hff
    unfold fateOf at h1
    rw [List.getElem?_eq_getElem hlt] at h1 ⊢
    exact congrArg some h1)
  cases he
  have o0 := hcc 0 _ rfl
  have o1 := hcc 1 _ rfl
  replace o0 : w.cell? ⟨g, q + mu * 2, none⟩ = some (.int .i64 fk) := o0
  replace o1 : w.cell? ⟨g, q + mu * 2 + 1, none⟩ = some (.int .i64 fn) := o1
  have og : g < w.heap.size := World.block_lt_of_cell? _ _ o0
  have i1 : (0 : Int) ≤ (mu : Int) := by omega
  have i2 : (mu : Int) < (F.length : Int) := by omega
  have hz0' := boxesM w #[.int .i64 mrc, .int .i64 mdl, .int .i64 mro, .int .i64 mj, .int .i64 mlv, .slice aA an ac, .slice lA n lc, .slice (some ⟨g, q, none⟩) F.length fc, .int .i64 mu, .int .i64 ms.sent, .int .i64 ms.lost, .int .i64 ms.dropped, .int .i64 ms.doubled, .int .i64 ms.late, .int .i64 ms.turned] #[.int .i64 0, .int .i64 0, .int .i64 0, .int .i64 0, .int .i64 0, .slice none 0 0, .slice none 0 0, .slice none 0 0, .int .i64 0, .int .i64 0, .int .i64 0, .int .i64 0, .int .i64 0, .int .i64 0, .int .i64 0] #[.int .i64 0, .int .i64 0] 59 59 39
  have o0' := (hz0'.2.2.2.1.cell (p := ⟨g, q + mu * 2, none⟩) og).trans o0
  have o1' := (hz0'.2.2.2.1.cell (p := ⟨g, q + mu * 2 + 1, none⟩) og).trans o1
  clear hcc hz0'
  clear hm hX hn hbt hbl hs hvs hgx hfk hfn hff hv hpl hxn hnn han hT hlw hi0 hz0 hz1 hz2
  go_enter Try.func35, Try.ntmps35
  have hbx := boxesM w #[.int .i64 mrc, .int .i64 mdl, .int .i64 mro, .int .i64 mj, .int .i64 mlv, .slice aA an ac, .slice lA n lc, .slice (some ⟨g, q, none⟩) F.length fc, .int .i64 ((mu : Int) + 1), .int .i64 ms.sent, .int .i64 ms.lost, .int .i64 ms.dropped, .int .i64 ms.doubled, .int .i64 ms.late, .int .i64 ms.turned] #[.int .i64 0, .int .i64 0, .int .i64 0, .int .i64 0, .int .i64 0, .slice none 0 0, .slice none 0 0, .slice none 0 0, .int .i64 0, .int .i64 0, .int .i64 0, .int .i64 0, .int .i64 0, .int .i64 0, .int .i64 0] #[.int .i64 fk, .int .i64 fn] 59 59 39
  obtain ⟨hb4, hb8, hb9, hbl, hzz⟩ := hbx
  have hmade := World.ownsRow_made (((w.alloc (.cells #[.int .i64 mrc, .int .i64 mdl, .int .i64 mro, .int .i64 mj, .int .i64 mlv, .slice aA an ac, .slice lA n lc, .slice (some ⟨g, q, none⟩) F.length fc, .int .i64 ((mu : Int) + 1), .int .i64 ms.sent, .int .i64 ms.lost, .int .i64 ms.dropped, .int .i64 ms.doubled, .int .i64 ms.late, .int .i64 ms.turned] 59)).alloc (.cells #[.int .i64 0, .int .i64 0, .int .i64 0, .int .i64 0, .int .i64 0, .slice none 0 0, .slice none 0 0, .slice none 0 0, .int .i64 0, .int .i64 0, .int .i64 0, .int .i64 0, .int .i64 0, .int .i64 0, .int .i64 0] 59)).alloc (.cells #[.int .i64 fk, .int .i64 fn] 39)) (e := 92) #[] 0 (base := w.heap.size) (size := 1) (by rw [hzz]; omega) (Nat.zero_le _) rfl
  rw [hzz] at hmade
  have HMADE := Lib.hid hmade
  have HLR := Lib.hid ((Reads.of_owns (ownsRow_keep HLW.out (Keep.none hbl) (fun _ _ => id))).below ((Below.refl _ _).alloc (Nat.le_refl _) (.cells #[] 92)))
  have hsz : w.heap.size ≤ ((((w.alloc (.cells #[.int .i64 mrc, .int .i64 mdl, .int .i64 mro, .int .i64 mj, .int .i64 mlv, .slice aA an ac, .slice lA n lc, .slice (some ⟨g, q, none⟩) F.length fc, .int .i64 ((mu : Int) + 1), .int .i64 ms.sent, .int .i64 ms.lost, .int .i64 ms.dropped, .int .i64 ms.doubled, .int .i64 ms.late, .int .i64 ms.turned] 59)).alloc (.cells #[.int .i64 0, .int .i64 0, .int .i64 0, .int .i64 0, .int .i64 0, .slice none 0 0, .slice none 0 0, .slice none 0 0, .int .i64 0, .int .i64 0, .int .i64 0, .int .i64 0, .int .i64 0, .int .i64 0, .int .i64 0] 59)).alloc (.cells #[.int .i64 fk, .int .i64 fn] 39)).alloc (.cells #[] 92)).heap.size := by simp; omega
  have HSZ := Lib.hid hsz
  have HB4 := Lib.hid (hb4.alloc (.cells #[] 92))
  have HB8 := Lib.hid (hb8.alloc (.cells #[] 92))
  have HB9 := Lib.hid (hb9.alloc (.cells #[] 92))
  have HBL := Lib.hid (hbl.alloc (by rw [hzz]; omega) (.cells #[] 92))
  have HZZ : Hid (((((w.alloc (.cells #[.int .i64 mrc, .int .i64 mdl, .int .i64 mro, .int .i64 mj, .int .i64 mlv, .slice aA an ac, .slice lA n lc, .slice (some ⟨g, q, none⟩) F.length fc, .int .i64 ((mu : Int) + 1), .int .i64 ms.sent, .int .i64 ms.lost, .int .i64 ms.dropped, .int .i64 ms.doubled, .int .i64 ms.late, .int .i64 ms.turned] 59)).alloc (.cells #[.int .i64 0, .int .i64 0, .int .i64 0, .int .i64 0, .int .i64 0, .slice none 0 0, .slice none 0 0, .slice none 0 0, .int .i64 0, .int .i64 0, .int .i64 0, .int .i64 0, .int .i64 0, .int .i64 0, .int .i64 0] 59)).alloc (.cells #[.int .i64 fk, .int .i64 fn] 39)).alloc (.cells #[] 92)).heap.size = w.heap.size + 1 + 1 + 1 + 1) := by show _ = _; rw [World.size_alloc, hzz]
  clear hb4 hb8 hb9 hbl hzz hmade hsz
  go_wp2_with (at_builtin; refine wpList_appR rfl _ _ 55 rfl w.heap.size 92 i0 (.slice none 0 0) 1 24 Try.underlying55 HI0.out HZ0.out HZ1.out HZ2.out rfl _ 0 [] rfl HMADE.out _ n vs rfl HLR.out HM.out.one (by unfold maxLen; omega) (by omega) HSZ.out ?_; rintro A2 c2 w2 hown2 hk2 hg2 -; rw [Nat.zero_add, List.nil_append] at hown2; rw [Nat.zero_add]; have HO2 := Lib.hid hown2; have HK2 := Lib.hid hk2; have HG2 := Lib.hid hg2; clear hown2 hk2 hg2)
  obtain ⟨g2, cap2, cur2, hv2, hg2ge, hh2, -⟩ : ∃ g2 cap cur, (Value.slice A2 n c2) = .slice (some ⟨g2, 0, none⟩) n cap ∧ w.heap.size + 1 + 1 + 1 ≤ g2 ∧ w2.heap[g2]? = some (.cells cur 92) ∧ True := by
    rcases HO2.out.2 with ⟨h, h'⟩ | ⟨g2, cap, cur, h, h1, h2, -⟩
    · omega
    · refine ⟨g2, cap, cur, h, ?_, h2, trivial⟩
      rcases HG2.out g2 (by rw [Nat.zero_add, h]; rfl) with h3 | h3
      · have h4 : w.heap.size + 1 + 1 + 1 = g2 := Option.some.inj h3
        omega
      · have := HZZ.out; omega
  obtain ⟨rfl, rfl⟩ : A2 = some ⟨g2, 0, none⟩ ∧ c2 = cap2 := by injection hv2 with h1 _ h3; exact ⟨h1, h3⟩
  have HGE := Lib.hid hg2ge
  have HKF : Hid (Keep (fun k => k = w.heap.size + 1 + 1 + 1) ((((w.alloc (.cells #[.int .i64 mrc, .int .i64 mdl, .int .i64 mro, .int .i64 mj, .int .i64 mlv, .slice aA an ac, .slice lA n lc, .slice (some ⟨g, q, none⟩) F.length fc, .int .i64 ((mu : Int) + 1), .int .i64 ms.sent, .int .i64 ms.lost, .int .i64 ms.dropped, .int .i64 ms.doubled, .int .i64 ms.late, .int .i64 ms.turned] 59)).alloc (.cells #[.int .i64 0, .int .i64 0, .int .i64 0, .int .i64 0, .int .i64 0, .slice none 0 0, .slice none 0 0, .slice none 0 0, .int .i64 0, .int .i64 0, .int .i64 0, .int .i64 0, .int .i64 0, .int .i64 0, .int .i64 0] 59)).alloc (.cells #[.int .i64 fk, .int .i64 fn] 39)).alloc (.cells #[] 92)) w2) := HK2.out.mono (fun q _ e => by cases e; rfl)
  have HZ2 : Hid (w.heap.size + 1 + 1 + 1 + 1 ≤ w2.heap.size) := by have h1 := HKF.out.size; have h2 := HZZ.out; show _ ≤ _; omega
  have HB42 := Lib.hid (HB4.out.keep HKF.out (by omega))
  have HB82 := Lib.hid (HB8.out.keep HKF.out (by omega))
  have HB92 := Lib.hid (HB9.out.keep HKF.out (by omega))
  have HBL2 := Lib.hid (bkeep HBL.out HKF.out (Nat.le_refl _) (fun q e => by rw [e]; omega))
  have HRX := Lib.hid (ownsRow_keep HEX.out.1 (Keep.none HBL2.out) (fun _ _ => id) : ROwnB w2 (.slice xA xn xc) X)
  have HRXD : Hid (ROwnB w2.drew (.slice xA xn xc) X) := HRX.out
  clear hv2 hg2ge hh2 HMADE HLR HSZ HB4 HB8 HB9 HBL HZZ HK2 HG2 HKF o0 o1 o0' o1'
  have HL5 : Hid (∀ wS, Keep (fun _ => False) w2.drew wS → wS.cell? ⟨g2, p, none⟩ = some (.slice xA xn xc)) := fun wS hk => by
    have h1 := ownsRow_cell (ownsRow_keep (show w2.drew.ownsRow w.heap.size 92 1 (.slice (some ⟨g2, 0, none⟩) n c2) n vs from HO2.out) hk (fun _ _ => id)) HV.out
    exact h1
  have HL8 : Hid (∀ wS, Keep (fun _ => False) w2.drew wS → wS.cell? ⟨w.heap.size, 2, none⟩ = some (.int .i64 mro)) := fun wS hk => ((show Blk w2.drew w.heap.size #[.int .i64 mrc, .int .i64 mdl, .int .i64 mro, .int .i64 mj, .int .i64 mlv, .slice aA an ac, .slice lA n lc, .slice (some ⟨g, q, none⟩) F.length fc, .int .i64 ((mu : Int) + 1), .int .i64 ms.sent, .int .i64 ms.lost, .int .i64 ms.dropped, .int .i64 ms.doubled, .int .i64 ms.late, .int .i64 ms.turned] 59 from HB42.out).keep hk id).cell 2 rfl
  have HL12 : Hid (∀ wS, Keep (fun _ => False) w2.drew wS → wS.cell? ⟨w.heap.size, 1, none⟩ = some (.int .i64 mdl)) := fun wS hk => ((show Blk w2.drew w.heap.size #[.int .i64 mrc, .int .i64 mdl, .int .i64 mro, .int .i64 mj, .int .i64 mlv, .slice aA an ac, .slice lA n lc, .slice (some ⟨g, q, none⟩) F.length fc, .int .i64 ((mu : Int) + 1), .int .i64 ms.sent, .int .i64 ms.lost, .int .i64 ms.dropped, .int .i64 ms.doubled, .int .i64 ms.late, .int .i64 ms.turned] 59 from HB42.out).keep hk id).cell 1 rfl
  have HL15 : Hid (∀ wS, Keep (fun _ => False) w2.drew wS → wS.cell? ⟨w.heap.size + 1 + 1, 0, none⟩ = some (.int .i64 fk) ∧ wS.cell? ⟨w.heap.size + 1 + 1, 1, none⟩ = some (.int .i64 fn)) := fun wS hk => blk2 ((show Blk w2.drew (w.heap.size + 1 + 1) #[.int .i64 fk, .int .i64 fn] 39 from HB92.out).keep hk id)
  have HL17 : Hid (∀ wS, Keep (fun _ => False) w2.drew wS → wS.cell? ⟨w.heap.size, 9, none⟩ = some (.int .i64 ms.sent) ∧ wS.cell? ⟨w.heap.size, 10, none⟩ = some (.int .i64 ms.lost) ∧ wS.cell? ⟨w.heap.size, 11, none⟩ = some (.int .i64 ms.dropped) ∧ wS.cell? ⟨w.heap.size, 12, none⟩ = some (.int .i64 ms.doubled) ∧ wS.cell? ⟨w.heap.size, 13, none⟩ = some (.int .i64 ms.late) ∧ wS.cell? ⟨w.heap.size, 14, none⟩ = some (.int .i64 ms.turned)) := fun wS hk => by
    have h := (show Blk w2.drew w.heap.size #[.int .i64 mrc, .int .i64 mdl, .int .i64 mro, .int .i64 mj, .int .i64 mlv, .slice aA an ac, .slice lA n lc, .slice (some ⟨g, q, none⟩) F.length fc, .int .i64 ((mu : Int) + 1), .int .i64 ms.sent, .int .i64 ms.lost, .int .i64 ms.dropped, .int .i64 ms.doubled, .int .i64 ms.late, .int .i64 ms.turned] 59 from HB42.out).keep hk id
    exact ⟨h.cell 9 rfl, h.cell 10 rfl, h.cell 11 rfl, h.cell 12 rfl, h.cell 13 rfl, h.cell 14 rfl⟩
  have hwr := HWR.out
  refine wp_region_heldT (S := (fun W' => Keep (fun _ => False) w2.drew W')) 23 (by kernel_rfl) (Keep.refl _ _) (fun hHeld => ?_)
  refine heldT_free (i := 0) (oi := { dst := some 33, op := Op.move (Operand.tmp 10), type := 55, pos := "law.go:75", after := #[], guard := none }) (v := ?_) rfl (by kernel_rfl) (by kernel_rfl) (by kernel_rfl) (by kernel_rfl) (fun _ _ _ h => h) (Or.inl ⟨by rfl, ?_⟩) hHeld ?_
  rotate_left 1
  · intro wS; go_simp <;> with_reducible rfl
  (try simp only [Act.put, List.setIfInBounds_toArray, List.set_cons_zero, List.set_cons_succ])
  refine heldT_free (i := 1) (oi := { dst := some 34, op := Op.move (Operand.tmp 1), type := 3, pos := "law.go:75", after := #[], guard := none }) (v := ?_) rfl (by kernel_rfl) (by kernel_rfl) (by kernel_rfl) (by kernel_rfl) (fun _ _ _ h => h) (Or.inl ⟨by rfl, ?_⟩) hHeld ?_
  rotate_left 1
  · intro wS; go_simp <;> with_reducible rfl
  (try simp only [Act.put, List.setIfInBounds_toArray, List.set_cons_zero, List.set_cons_succ])
  refine heldT_free (i := 2) (oi := { dst := some 35, op := Op.move (Operand.tmp 10), type := 55, pos := "law.go:75", after := #[], guard := none }) (v := ?_) rfl (by kernel_rfl) (by kernel_rfl) (by kernel_rfl) (by kernel_rfl) (fun _ _ _ h => h) (Or.inl ⟨by rfl, ?_⟩) hHeld ?_
  rotate_left 1
  · intro wS; go_simp <;> with_reducible rfl
  (try simp only [Act.put, List.setIfInBounds_toArray, List.set_cons_zero, List.set_cons_succ])
  refine heldT_free (i := 3) (oi := { dst := some 36, op := Op.move (Operand.tmp 1), type := 3, pos := "law.go:75", after := #[], guard := none }) (v := ?_) rfl (by kernel_rfl) (by kernel_rfl) (by kernel_rfl) (by kernel_rfl) (fun _ _ _ h => h) (Or.inl ⟨by rfl, ?_⟩) hHeld ?_
  rotate_left 1
  · intro wS; go_simp <;> with_reducible rfl
  (try simp only [Act.put, List.setIfInBounds_toArray, List.set_cons_zero, List.set_cons_succ])
  refine heldT_free (i := 4) (oi := { dst := some 37, op := Op.indexAddr 55 (Operand.tmp 35) (Operand.tmp 36), type := 0, pos := "law.go:75", after := #[{ on := 2, ground := Ground.data }, { on := 3, ground := Ground.data }], guard := none }) (v := ?_) rfl (by kernel_rfl) (by kernel_rfl) (by kernel_rfl) (by kernel_rfl) (fun _ _ _ h => h) (Or.inl ⟨by rfl, ?_⟩) hHeld ?_
  rotate_left 1
  · intro wS; go_simp <;> with_reducible rfl
  (try simp only [Act.put, List.setIfInBounds_toArray, List.set_cons_zero, List.set_cons_succ])
  refine heldT_takeC [] (i := 5) (oi := { dst := some 38, op := Op.load 92 (Operand.tmp 37), type := 92, pos := "law.go:75", after := #[{ on := 4, ground := Ground.data }], guard := none }) (v := ?_) rfl (by kernel_rfl) (by kernel_rfl) (by kernel_rfl) (by kernel_rfl) (fun _ _ _ h => h) (Or.inl ⟨by rfl, ?_⟩) hHeld ?_
  rotate_left 1
  · intro wS hSw; have q := HL5.out wS hSw; clear hSw; go_simp <;> with_reducible rfl
  (try simp only [Act.put, List.setIfInBounds_toArray, List.set_cons_zero, List.set_cons_succ])
  refine heldT_free (i := 6) (oi := { dst := some 39, op := Op.fieldAddr 59 (Operand.tmp 4) 0, type := 0, pos := "law.go:75", after := #[], guard := none }) (v := ?_) rfl (by kernel_rfl) (by kernel_rfl) (by kernel_rfl) (by kernel_rfl) (fun _ _ _ h => h) (Or.inl ⟨by rfl, ?_⟩) hHeld ?_
  rotate_left 1
  · intro wS; go_simp <;> with_reducible rfl
  (try simp only [Act.put, List.setIfInBounds_toArray, List.set_cons_zero, List.set_cons_succ])
  refine heldT_free (i := 7) (oi := { dst := some 40, op := Op.fieldAddr 30 (Operand.tmp 39) 2, type := 0, pos := "law.go:75", after := #[{ on := 6, ground := Ground.data }], guard := none }) (v := ?_) rfl (by kernel_rfl) (by kernel_rfl) (by kernel_rfl) (by kernel_rfl) (fun _ _ _ h => h) (Or.inl ⟨by rfl, ?_⟩) hHeld ?_
  rotate_left 1
  · intro wS; go_simp <;> with_reducible rfl
  (try simp only [Act.put, List.setIfInBounds_toArray, List.set_cons_zero, List.set_cons_succ])
  refine heldT_takeC [] (i := 8) (oi := { dst := some 41, op := Op.load 3 (Operand.tmp 40), type := 3, pos := "law.go:75", after := #[{ on := 7, ground := Ground.data }], guard := none }) (v := ?_) rfl (by kernel_rfl) (by kernel_rfl) (by kernel_rfl) (by kernel_rfl) (fun _ _ _ h => h) (Or.inl ⟨by rfl, ?_⟩) hHeld ?_
  rotate_left 1
  · intro wS hSw; have q := HL8.out wS hSw; clear hSw; go_simp <;> with_reducible rfl
  (try simp only [Act.put, List.setIfInBounds_toArray, List.set_cons_zero, List.set_cons_succ])
  refine heldT_free (i := 9) (oi := { dst := some 42, op := Op.move (Operand.tmp 2), type := 3, pos := "law.go:75", after := #[], guard := none }) (v := ?_) rfl (by kernel_rfl) (by kernel_rfl) (by kernel_rfl) (by kernel_rfl) (fun _ _ _ h => h) (Or.inl ⟨by rfl, ?_⟩) hHeld ?_
  rotate_left 1
  · intro wS; go_simp <;> with_reducible rfl
  (try simp only [Act.put, List.setIfInBounds_toArray, List.set_cons_zero, List.set_cons_succ])
  refine heldT_free (i := 10) (oi := { dst := some 43, op := Op.fieldAddr 59 (Operand.tmp 4) 0, type := 0, pos := "law.go:75", after := #[], guard := none }) (v := ?_) rfl (by kernel_rfl) (by kernel_rfl) (by kernel_rfl) (by kernel_rfl) (fun _ _ _ h => h) (Or.inl ⟨by rfl, ?_⟩) hHeld ?_
  rotate_left 1
  · intro wS; go_simp <;> with_reducible rfl
  (try simp only [Act.put, List.setIfInBounds_toArray, List.set_cons_zero, List.set_cons_succ])
  refine heldT_free (i := 11) (oi := { dst := some 44, op := Op.fieldAddr 30 (Operand.tmp 43) 1, type := 0, pos := "law.go:75", after := #[{ on := 10, ground := Ground.data }], guard := none }) (v := ?_) rfl (by kernel_rfl) (by kernel_rfl) (by kernel_rfl) (by kernel_rfl) (fun _ _ _ h => h) (Or.inl ⟨by rfl, ?_⟩) hHeld ?_
  rotate_left 1
  · intro wS; go_simp <;> with_reducible rfl
  (try simp only [Act.put, List.setIfInBounds_toArray, List.set_cons_zero, List.set_cons_succ])
  refine heldT_takeC [] (i := 12) (oi := { dst := some 45, op := Op.load 3 (Operand.tmp 44), type := 3, pos := "law.go:75", after := #[{ on := 11, ground := Ground.data }], guard := none }) (v := ?_) rfl (by kernel_rfl) (by kernel_rfl) (by kernel_rfl) (by kernel_rfl) (fun _ _ _ h => h) (Or.inl ⟨by rfl, ?_⟩) hHeld ?_
  rotate_left 1
  · intro wS hSw; have q := HL12.out wS hSw; clear hSw; go_simp <;> with_reducible rfl
  (try simp only [Act.put, List.setIfInBounds_toArray, List.set_cons_zero, List.set_cons_succ])
  refine heldT_free (i := 13) (oi := { dst := some 46, op := Op.binOp BinOp.add 3 (Operand.tmp 42) (Operand.tmp 45) 3, type := 3, pos := "law.go:75", after := #[{ on := 9, ground := Ground.data }, { on := 12, ground := Ground.data }], guard := none }) (v := ?_) rfl (by kernel_rfl) (by kernel_rfl) (by kernel_rfl) (by kernel_rfl) (fun _ _ _ h => h) (Or.inl ⟨by rfl, ?_⟩) hHeld ?_
  rotate_left 1
  · intro wS; go_simp <;> with_reducible rfl
  (try simp only [Act.put, List.setIfInBounds_toArray, List.set_cons_zero, List.set_cons_succ])
  refine heldT_free (i := 14) (oi := { dst := some 47, op := Op.move (Operand.tmp 3), type := 9, pos := "law.go:75", after := #[], guard := none }) (v := ?_) rfl (by kernel_rfl) (by kernel_rfl) (by kernel_rfl) (by kernel_rfl) (fun _ _ _ h => h) (Or.inl ⟨by rfl, ?_⟩) hHeld ?_
  rotate_left 1
  · intro wS; go_simp <;> with_reducible rfl
  (try simp only [Act.put, List.setIfInBounds_toArray, List.set_cons_zero, List.set_cons_succ])
  refine heldT_takeC [] (i := 15) (oi := { dst := some 48, op := Op.load 39 (Operand.tmp 9), type := 39, pos := "law.go:75", after := #[], guard := none }) (v := ?_) rfl (by kernel_rfl) (by kernel_rfl) (by kernel_rfl) (by kernel_rfl) (fun _ _ _ h => h) (Or.inl ⟨by rfl, ?_⟩) hHeld ?_
  rotate_left 1
  · intro wS hSw; have q := HL15.out wS hSw; clear hSw; go_simp <;> with_reducible rfl
  (try simp only [Act.put, List.setIfInBounds_toArray, List.set_cons_zero, List.set_cons_succ])
  refine heldT_free (i := 16) (oi := { dst := some 49, op := Op.fieldAddr 59 (Operand.tmp 4) 5, type := 0, pos := "law.go:75", after := #[], guard := none }) (v := ?_) rfl (by kernel_rfl) (by kernel_rfl) (by kernel_rfl) (by kernel_rfl) (fun _ _ _ h => h) (Or.inl ⟨by rfl, ?_⟩) hHeld ?_
  rotate_left 1
  · intro wS; go_simp <;> with_reducible rfl
  (try simp only [Act.put, List.setIfInBounds_toArray, List.set_cons_zero, List.set_cons_succ])
  refine heldT_takeC [] (i := 17) (oi := { dst := some 50, op := Op.load 57 (Operand.tmp 49), type := 57, pos := "law.go:75", after := #[{ on := 16, ground := Ground.data }], guard := none }) (v := ?_) rfl (by kernel_rfl) (by kernel_rfl) (by kernel_rfl) (by kernel_rfl) (fun _ _ _ h => h) (Or.inl ⟨by rfl, ?_⟩) hHeld ?_
  rotate_left 1
  · intro wS hSw; have q := HL17.out wS hSw; clear hSw; go_simp <;> with_reducible rfl
  (try simp only [Act.put, List.setIfInBounds_toArray, List.set_cons_zero, List.set_cons_succ])
  refine heldT_one (j := 18) (by kernel_rfl) (by kernel_rfl) rfl (fun K hK => ?_)
  go_simp
  go_wp2_with ((go_at_call 49; refine (HGV.out _ HRXD.out).mono ?_; rintro e w3 ⟨v3, rfl, hgv⟩; obtain ⟨A3, c3, rfl⟩ := ownsRow_slice hgv.row; have HG3 := Lib.hid hgv; have HN3 : Hid (Keep (fun _ => False) w2.drew w3) := Lib.hid (Keep.ofBelowAll hgv.bel); clear hgv))
  refine hK.out _ _ HN3.out (fun hHeld => ?_)
  clear hK K
  (try simp only [Act.put, List.setIfInBounds_toArray, List.set_cons_zero, List.set_cons_succ])
  refine heldT_free (i := 19) (oi := { dst := some 32, op := Op.move (Operand.tmp 51), type := 105, pos := "law.go:75", after := #[{ on := 18, ground := Ground.data }], guard := none }) (v := ?_) rfl (by kernel_rfl) (by kernel_rfl) (by kernel_rfl) (by kernel_rfl) (fun _ _ _ h => h) (Or.inl ⟨by rfl, ?_⟩) hHeld ?_
  rotate_left 1
  · intro wS; go_simp <;> with_reducible rfl
  (try simp only [Act.put, List.setIfInBounds_toArray, List.set_cons_zero, List.set_cons_succ])
  refine heldT_free (i := 20) (oi := { dst := some 52, op := Op.extract (Operand.tmp 32) 0, type := 92, pos := "law.go:75", after := #[{ on := 19, ground := Ground.data }], guard := none }) (v := ?_) rfl (by kernel_rfl) (by kernel_rfl) (by kernel_rfl) (by kernel_rfl) (fun _ _ _ h => h) (Or.inl ⟨by rfl, ?_⟩) hHeld ?_
  rotate_left 1
  · intro wS; go_simp <;> with_reducible rfl
  (try simp only [Act.put, List.setIfInBounds_toArray, List.set_cons_zero, List.set_cons_succ])
  refine heldT_free (i := 21) (oi := { dst := some 53, op := Op.extract (Operand.tmp 32) 1, type := 57, pos := "law.go:75", after := #[{ on := 19, ground := Ground.data }, { on := 23, ground := Ground.gcOnly Departure.lateStores }], guard := none }) (v := ?_) rfl (by kernel_rfl) (by kernel_rfl) (by kernel_rfl) (by kernel_rfl) (fun _ _ _ h => h) (Or.inl ⟨by rfl, ?_⟩) hHeld ?_
  rotate_left 1
  · intro wS; go_simp <;> with_reducible rfl
  (try simp only [Act.put, List.setIfInBounds_toArray, List.set_cons_zero, List.set_cons_succ])
  refine heldT_free (i := 22) (oi := { dst := some 54, op := Op.indexAddr 55 (Operand.tmp 33) (Operand.tmp 34), type := 0, pos := "law.go:75", after := #[{ on := 0, ground := Ground.data }, { on := 1, ground := Ground.data }, { on := 0, ground := Ground.phase }, { on := 1, ground := Ground.phase }, { on := 2, ground := Ground.phase }, { on := 3, ground := Ground.phase }, { on := 4, ground := Ground.phase }, { on := 5, ground := Ground.phase }, { on := 6, ground := Ground.phase }, { on := 7, ground := Ground.phase }, { on := 8, ground := Ground.phase }, { on := 9, ground := Ground.phase }, { on := 10, ground := Ground.phase }, { on := 11, ground := Ground.phase }, { on := 12, ground := Ground.phase }, { on := 13, ground := Ground.phase }, { on := 14, ground := Ground.phase }, { on := 15, ground := Ground.phase }, { on := 16, ground := Ground.phase }, { on := 17, ground := Ground.phase }, { on := 18, ground := Ground.phase }, { on := 19, ground := Ground.phase }, { on := 20, ground := Ground.phase }, { on := 21, ground := Ground.textOnly Departure.lateStores }], guard := none }) (v := ?_) rfl (by kernel_rfl) (by kernel_rfl) (by kernel_rfl) (by kernel_rfl) (fun _ _ _ h => h) (Or.inl ⟨by rfl, ?_⟩) hHeld ?_
  rotate_left 1
  · intro wS; go_simp <;> with_reducible rfl
  (try simp only [Act.put, List.setIfInBounds_toArray, List.set_cons_zero, List.set_cons_succ])
  refine heldT_tail (by kernel_rfl) rfl rfl (by kernel_rfl) ?_
  (try simp only [List.drop_succ_cons, List.drop_zero])
  have HB43 := Lib.hid ((show Blk w2.drew w.heap.size #[.int .i64 mrc, .int .i64 mdl, .int .i64 mro, .int .i64 mj, .int .i64 mlv, .slice aA an ac, .slice lA n lc, .slice (some ⟨g, q, none⟩) F.length fc, .int .i64 ((mu : Int) + 1), .int .i64 ms.sent, .int .i64 ms.lost, .int .i64 ms.dropped, .int .i64 ms.doubled, .int .i64 ms.late, .int .i64 ms.turned] 59 from HB42.out).keep HN3.out id)
  have HB83 := Lib.hid ((show Blk w2.drew (w.heap.size + 1) #[.int .i64 0, .int .i64 0, .int .i64 0, .int .i64 0, .int .i64 0, .slice none 0 0, .slice none 0 0, .slice none 0 0, .int .i64 0, .int .i64 0, .int .i64 0, .int .i64 0, .int .i64 0, .int .i64 0, .int .i64 0] 59 from HB82.out).keep HN3.out id)
  have HO3 := Lib.hid (ownsRow_keep (show w2.drew.ownsRow w.heap.size 92 1 (.slice (some ⟨g2, 0, none⟩) n c2) n vs from HO2.out) HN3.out (fun _ _ => id))
  have y0 := ownsRow_cell HO3.out HV.out
  have y1 := ownsRow_frozen HO3.out p
  have b6 := HB43.out.cell 6 rfl
  have b9 := HB43.out.cell 9 rfl
  have b10 := HB43.out.cell 10 rfl
  have b11 := HB43.out.cell 11 rfl
  have b12 := HB43.out.cell 12 rfl
  have b13 := HB43.out.cell 13 rfl
  have b14 := HB43.out.cell 14 rfl
  have f6 := HB43.out.frozen 6
  have f9 := HB43.out.frozen 9
  have f10 := HB43.out.frozen 10
  have f11 := HB43.out.frozen 11
  have f12 := HB43.out.frozen 12
  have f13 := HB43.out.frozen 13
  have f14 := HB43.out.frozen 14
  have hne : ¬ g2 = w.heap.size := by have := HGE.out; omega
  have hne2 : ¬ w.heap.size = g2 := by have := HGE.out; omega
  have hne3 : ¬ w.heap.size + 1 = g2 := by have := HGE.out; omega
  have HBM : Hid (Blk ((((((((w3.setCell ⟨g2, p, none⟩ (.slice A3 gx.1.length c3)).setCell ⟨w.heap.size, 9, none⟩ (.int .i64 gx.2.sent)).setCell ⟨w.heap.size, 10, none⟩ (.int .i64 gx.2.lost)).setCell ⟨w.heap.size, 11, none⟩ (.int .i64 gx.2.dropped)).setCell ⟨w.heap.size, 12, none⟩ (.int .i64 gx.2.doubled)).setCell ⟨w.heap.size, 13, none⟩ (.int .i64 gx.2.late)).setCell ⟨w.heap.size, 14, none⟩ (.int .i64 gx.2.turned)).setCell ⟨w.heap.size, 6, none⟩ (.slice (some ⟨g2, 0, none⟩) n c2)) w.heap.size (modC (⟨mrc, mdl, mro, mj, mlv, .slice aA an ac, .slice (some ⟨g2, 0, none⟩) n c2, .slice (some ⟨g, q, none⟩) F.length fc, mu + 1, gx.2⟩ : MD)) 59) := (((((((HB43.out.setOther (show w.heap.size ≠ g2 from hne2) _).set 9 _).set 10 _).set 11 _).set 12 _).set 13 _).set 14 _).set 6 _
  have HBR : Hid (Blk ((((((((w3.setCell ⟨g2, p, none⟩ (.slice A3 gx.1.length c3)).setCell ⟨w.heap.size, 9, none⟩ (.int .i64 gx.2.sent)).setCell ⟨w.heap.size, 10, none⟩ (.int .i64 gx.2.lost)).setCell ⟨w.heap.size, 11, none⟩ (.int .i64 gx.2.dropped)).setCell ⟨w.heap.size, 12, none⟩ (.int .i64 gx.2.doubled)).setCell ⟨w.heap.size, 13, none⟩ (.int .i64 gx.2.late)).setCell ⟨w.heap.size, 14, none⟩ (.int .i64 gx.2.turned)).setCell ⟨w.heap.size, 6, none⟩ (.slice (some ⟨g2, 0, none⟩) n c2)) (w.heap.size + 1) (modC md0) 59) := (((((((HB83.out.setOther (show w.heap.size + 1 ≠ g2 from hne3) _).setOther (show w.heap.size + 1 ≠ w.heap.size by omega) _).setOther (show w.heap.size + 1 ≠ w.heap.size by omega) _).setOther (show w.heap.size + 1 ≠ w.heap.size by omega) _).setOther (show w.heap.size + 1 ≠ w.heap.size by omega) _).setOther (show w.heap.size + 1 ≠ w.heap.size by omega) _).setOther (show w.heap.size + 1 ≠ w.heap.size by omega) _).setOther (show w.heap.size + 1 ≠ w.heap.size by omega) _
  have HCK : Hid (Keep (fun k => k = g2 ∨ k = w.heap.size) w3 ((((((((w3.setCell ⟨g2, p, none⟩ (.slice A3 gx.1.length c3)).setCell ⟨w.heap.size, 9, none⟩ (.int .i64 gx.2.sent)).setCell ⟨w.heap.size, 10, none⟩ (.int .i64 gx.2.lost)).setCell ⟨w.heap.size, 11, none⟩ (.int .i64 gx.2.dropped)).setCell ⟨w.heap.size, 12, none⟩ (.int .i64 gx.2.doubled)).setCell ⟨w.heap.size, 13, none⟩ (.int .i64 gx.2.late)).setCell ⟨w.heap.size, 14, none⟩ (.int .i64 gx.2.turned)).setCell ⟨w.heap.size, 6, none⟩ (.slice (some ⟨g2, 0, none⟩) n c2))) := (Keep.setCell (Keep.setCell (Keep.setCell (Keep.setCell (Keep.setCell (Keep.setCell (Keep.setCell (Keep.setCell (Keep.refl (fun k => k = g2 ∨ k = w.heap.size) w3) (p := ⟨g2, p, none⟩) (.inl (.inl rfl)) _) (p := ⟨w.heap.size, 9, none⟩) (.inl (.inr rfl)) _) (p := ⟨w.heap.size, 10, none⟩) (.inl (.inr rfl)) _) (p := ⟨w.heap.size, 11, none⟩) (.inl (.inr rfl)) _) (p := ⟨w.heap.size, 12, none⟩) (.inl (.inr rfl)) _) (p := ⟨w.heap.size, 13, none⟩) (.inl (.inr rfl)) _) (p := ⟨w.heap.size, 14, none⟩) (.inl (.inr rfl)) _) (p := ⟨w.heap.size, 6, none⟩) (.inl (.inr rfl)) _)
  clear HL5 HL8 HL12 HL15 HL17 HRXD
  go_wp2_with fail
  refine NoPanic.normal ?_
  go_wp2_with (first
    | (refine wpList_loadM rfl _ rfl _ rfl (⟨mrc, mdl, mro, mj, mlv, .slice aA an ac, .slice (some ⟨g2, 0, none⟩) n c2, .slice (some ⟨g, q, none⟩) F.length fc, mu + 1, gx.2⟩ : MD) ?_ ?_; exact HBM.out)
    | (refine wpList_storeM rfl _ _ rfl _ rfl (⟨mrc, mdl, mro, mj, mlv, .slice aA an ac, .slice (some ⟨g2, 0, none⟩) n c2, .slice (some ⟨g, q, none⟩) F.length fc, mu + 1, gx.2⟩ : MD) md0 ⟨rfl, rfl, rfl⟩ rfl ?_ ?_; exact HBR.out; rintro w9 HB9' HK9))
  clear y0 y1 b6 b9 b10 b11 b12 b13 b14 f6 f9 f10 f11 f12 f13 f14
  have HRW : Hid ((((((((((w3.setCell ⟨g2, p, none⟩ (.slice A3 gx.1.length c3)).setCell ⟨w.heap.size, 9, none⟩ (.int .i64 gx.2.sent)).setCell ⟨w.heap.size, 10, none⟩ (.int .i64 gx.2.lost)).setCell ⟨w.heap.size, 11, none⟩ (.int .i64 gx.2.dropped)).setCell ⟨w.heap.size, 12, none⟩ (.int .i64 gx.2.doubled)).setCell ⟨w.heap.size, 13, none⟩ (.int .i64 gx.2.late)).setCell ⟨w.heap.size, 14, none⟩ (.int .i64 gx.2.turned)).setCell ⟨w.heap.size, 6, none⟩ (.slice (some ⟨g2, 0, none⟩) n c2))).ownsRow w.heap.size 92 1 (.slice (some ⟨g2, 0, none⟩) n c2) n (vs.set p (.slice A3 gx.1.length c3))) := by
    have h1 := ownsRow_set HO3.out (j := p) (by have := HNN.out; omega) (.slice A3 gx.1.length c3)
    exact ownsRow_keep h1 (S := fun k => k = w.heap.size) (Keep.setCell (Keep.setCell (Keep.setCell (Keep.setCell (Keep.setCell (Keep.setCell (Keep.setCell (Keep.refl (fun k => k = w.heap.size) _) (p := ⟨w.heap.size, 9, none⟩) (.inl rfl) _) (p := ⟨w.heap.size, 10, none⟩) (.inl rfl) _) (p := ⟨w.heap.size, 11, none⟩) (.inl rfl) _) (p := ⟨w.heap.size, 12, none⟩) (.inl rfl) _) (p := ⟨w.heap.size, 13, none⟩) (.inl rfl) _) (p := ⟨w.heap.size, 14, none⟩) (.inl rfl) _) (p := ⟨w.heap.size, 6, none⟩) (.inl rfl) _) (fun g' hg' e => by cases hg'; exact hne e)
  have hv3 : ∀ g', (Value.slice A3 gx.1.length c3).ownBlock = some g' → (g' < w.heap.size ∧ G g') ∨ w2.heap.size ≤ g' := fun g' hg' => by
    rcases HG3.out.own g' hg' with h | h
    · exact .inl ⟨(HEX.out.1.lt g' h).2, HEX.out.2 g' h⟩
    · exact .inr h
  have HV3 := Lib.hid hv3
  have HG2L : Hid (g2 < w2.heap.size) := (HO2.out.lt g2 rfl).2
  have HSN : Hid (w2.heap.size ≤ w3.heap.size) := HN3.out.size
  have hz9 : w3.heap.size ≤ w9.heap.size := Nat.le_trans HCK.out.size HK9.out.size
  have hbel : Below w.heap.size w w9 := bkeep (bkeep (bkeep HBL2.out (show Keep (fun _ => False) w2 w3 from ⟨HN3.out.os, HN3.out.tape, HN3.out.output, HN3.out.size, HN3.out.block⟩) (Nat.le_refl _) (fun _ h => h.elim)) HCK.out (Nat.le_refl _) (fun q e => by have := HGE.out; omega)) HK9.out (Nat.le_refl _) (fun q e => by omega)
  have hmd := (HM.out.below hbel).mono (G' := fun q => G q ∨ w.heap.size ≤ q) (fun q hq _ => .inl hq)
  have hrow9 : w9.ownsRow 0 92 1 (.slice (some ⟨g2, 0, none⟩) n c2) vs.length (vs.set p (.slice A3 gx.1.length c3)) := by
    rw [← HNN.out]
    exact ownsRow_base (ownsRow_keep HRW.out HK9.out (fun g' hg' e => by have hq : g2 = g' := Option.some.inj hg'; have := HGE.out; omega)) (Nat.zero_le _)
  have hx9 : ROwnB w9 (.slice A3 gx.1.length c3) gx.1 := ownsRow_keep (ownsRow_keep HG3.out.row HCK.out (fun g' hg' e => by
      have h1 := HGE.out
      have h2 := HG2L.out
      have h3 := HZ2.out
      rcases HV3.out g' hg' with h | h <;> omega)) HK9.out (fun g' hg' e => by
      have h3 := HZ2.out
      rcases HV3.out g' hg' with h | h <;> omega)
  have hput := hmd.put (k := p) hrow9 hx9 (fun g' hg' => by rcases HV3.out g' hg' with h | h; exact .inl h.2; exact .inr (by have := HZ2.out; omega)) (fun g' hg' => by have hq : g2 = g' := Option.some.inj hg'; exact .inr (by have := HGE.out; omega)) (mu + 1) gx.2
  have HPUT := Lib.hid hput
  have HBE := Lib.hid hbel
  clear hv3 hz9 hbel hmd hrow9 hx9 hput
  obtain ⟨r0, r1, r2, r3, r4, r5, r6, r7, r8, r9, r10, r11, r12, r13, r14⟩ := blk15 HB9'.out
  refine bodyPost_ret (v := .agg (modC (⟨mrc, mdl, mro, mj, mlv, .slice aA an ac, .slice (some ⟨g2, 0, none⟩) n c2, .slice (some ⟨g, q, none⟩) F.length fc, mu + 1, gx.2⟩ : MD))) ?_ rfl ⟨(⟨mrc, mdl, mro, mj, mlv, .slice aA an ac, .slice (some ⟨g2, 0, none⟩) n c2, .slice (some ⟨g, q, none⟩) F.length fc, mu + 1, gx.2⟩ : MD), rfl, ⟨⟨_, by have h := HPUT.out; rw [← HAN.out] at h; exact h⟩, ⟨rfl, rfl, rfl, rfl, rfl, rfl, rfl⟩, ?_, rfl, HBE.out⟩⟩
  · unfold modC
    simp [results, Try.results35, go_sem, r0, r1, r2, r3, r4, r5, r6, r7, r8, r9, r10, r11, r12, r13, r14]
  · exact HU.out.symm
end Go.Proofs.Ytlodiibmofeikaa
