/- simnet: the model's take, of a receiver. -/
import Derived.Test.YtlodiibmofeikaaQNetMTakeH
namespace Go.Proofs.Ytlodiibmofeikaa
open Go.RowKit Go.Shelf
attribute [local go_sem] Oper.semAt_some
set_option linter.unusedVariables false
set_option linter.unusedSimpArgs false
set_option maxRecDepth 100000 in
set_option maxHeartbeats 8000000 in
theorem mtake_in (m : MD) (asks : List AskD) (vs : List Value) (Xs : List (List RM)) (F : List FD) (p : Nat) (X : List RM) (now : Int) (w : World) {col : Nat → Nat} {nb : Nat} {gd : GD} {delay room : Int} {pv : Value} {P : List PD} {fvN : Value} {FN : List FD} {usedN' : Nat} {sN : StN} (hN : NetAt w col nb gd delay room pv P fvN FN usedN' sN) (pd : PD) (hp : P[p]? = some pd) (hm : MdAt w (fun q => col q = 0) m asks vs Xs F) (hX : Xs[p]? = some X) (hrel : pd.l.map toR = sorted X) (hpl : pd.l.length ≤ 10000) (hvs : vs.length ≤ 1000) (hPl : P.length ≤ 1000) (hrc : m.rc = gd.l.length) (hat : p < gd.l.length) :
    Calls Try.prog 37 #[.agg (modC m), .pointer (some ⟨nb, 0, none⟩), .int .i64 (p : Int), .int .i64 now] w fun e w' => ∃ m', e = .returned (.tuple #[.agg (modC m'), .bool true]) ∧ TkR w w' col nb gd delay room pv P fvN usedN' sN m m' asks Xs FN F p pd now := by
  obtain ⟨i0, hi0, hz0, hz1, hz2⟩ := info_parts info_lists
  have HI0 := Lib.hid hi0
  have HZ0 := Lib.hid hz0
  have HZ1 := Lib.hid hz1
  have HZ2 := Lib.hid hz2
  have HM := Lib.hid hm
  have HNT := Lib.hid hN
  have HP := Lib.hid hp
  have HREL := Lib.hid hrel
  have HPL := Lib.hid hpl
  have HPP := Lib.hid hPl
  have HFA := Lib.hid @first_any
  have HWA := Lib.hid @without_any
  obtain ⟨v, hv⟩ : ∃ v, vs[p]? = some v := ⟨_, List.getElem?_eq_getElem (by rw [hm.len]; exact (List.getElem?_eq_some_iff.1 hX).1)⟩
  have HV := Lib.hid hv
  have HXX := Lib.hid hX
  have HEX := Lib.hid (hm.each p v X hv hX)
  have hpv : p < vs.length := (List.getElem?_eq_some_iff.1 hv).1
  have hset : vs.set p v = vs := set_self hv
  have HSET := Lib.hid hset
  obtain ⟨mrc, mdl, mro, mj, mlv, mav, mlsv, mfv, mu, ms⟩ := m
  dsimp only at *
  obtain ⟨aA, ac, rfl⟩ := ownsRow_slice hm.asks
  obtain ⟨lA, lc, rfl⟩ := ownsRow_slice hm.lists
  obtain ⟨fA, fc, rfl, -⟩ := hm.fates.val
  obtain ⟨n, hnn⟩ : ∃ n, n = vs.length := ⟨_, rfl⟩
  obtain ⟨an, han⟩ : ∃ n, n = asks.length := ⟨_, rfl⟩
  have HNN := Lib.hid hnn
  have HAN := Lib.hid han
  have j1 : (0 : Int) ≤ (p : Int) := by omega
  have j2 : (p : Int) < (n : Int) := by omega
  have hn1 : n ≤ 1000 := by omega
  unfold modC
  dsimp only
  rw [← hnn, ← han]
  have hlw := hm.lists
  rw [← hnn] at hlw
  have HLW := Lib.hid hlw
  obtain ⟨hb4, hb6, hb7, hb8, hb9, hbl, hzz⟩ := boxes5n w #[.int .i64 mrc, .int .i64 mdl, .int .i64 mro, .int .i64 mj, .int .i64 mlv, .slice aA an ac, .slice lA n lc, .slice fA F.length fc, .int .i64 mu, .int .i64 ms.sent, .int .i64 ms.lost, .int .i64 ms.dropped, .int .i64 ms.doubled, .int .i64 ms.late, .int .i64 ms.turned] #[.int .i64 (p : Int)] #[.int .i64 now] #[.int .i64 0, .int .i64 0, .int .i64 0, .int .i64 0, .int .i64 0, .slice none 0 0, .slice none 0 0, .slice none 0 0, .int .i64 0, .int .i64 0, .int .i64 0, .int .i64 0, .int .i64 0, .int .i64 0, .int .i64 0] #[.bool false] 59 3 3 59 4
  have hmade := World.ownsRow_made (((((w.alloc (.cells #[.int .i64 mrc, .int .i64 mdl, .int .i64 mro, .int .i64 mj, .int .i64 mlv, .slice aA an ac, .slice lA n lc, .slice fA F.length fc, .int .i64 mu, .int .i64 ms.sent, .int .i64 ms.lost, .int .i64 ms.dropped, .int .i64 ms.doubled, .int .i64 ms.late, .int .i64 ms.turned] 59)).alloc (.cells #[.int .i64 (p : Int)] 3)).alloc (.cells #[.int .i64 now] 3)).alloc (.cells #[.int .i64 0, .int .i64 0, .int .i64 0, .int .i64 0, .int .i64 0, .slice none 0 0, .slice none 0 0, .slice none 0 0, .int .i64 0, .int .i64 0, .int .i64 0, .int .i64 0, .int .i64 0, .int .i64 0, .int .i64 0] 59)).alloc (.cells #[.bool false] 4)) (e := 92) #[] 0 (base := w.heap.size) (size := 1) (by rw [hzz]; omega) (Nat.zero_le _) rfl
  rw [hzz] at hmade
  have HMADE := Lib.hid hmade
  have HLR := Lib.hid ((Reads.of_owns (ownsRow_keep HLW.out (Keep.none hbl) (fun _ _ => id))).below ((Below.refl _ _).alloc (Nat.le_refl _) (.cells #[] 92)))
  have hsz : w.heap.size ≤ (((((((w.alloc (.cells #[.int .i64 mrc, .int .i64 mdl, .int .i64 mro, .int .i64 mj, .int .i64 mlv, .slice aA an ac, .slice lA n lc, .slice fA F.length fc, .int .i64 mu, .int .i64 ms.sent, .int .i64 ms.lost, .int .i64 ms.dropped, .int .i64 ms.doubled, .int .i64 ms.late, .int .i64 ms.turned] 59)).alloc (.cells #[.int .i64 (p : Int)] 3)).alloc (.cells #[.int .i64 now] 3)).alloc (.cells #[.int .i64 0, .int .i64 0, .int .i64 0, .int .i64 0, .int .i64 0, .slice none 0 0, .slice none 0 0, .slice none 0 0, .int .i64 0, .int .i64 0, .int .i64 0, .int .i64 0, .int .i64 0, .int .i64 0, .int .i64 0] 59)).alloc (.cells #[.bool false] 4)).alloc (.cells #[] 92))).heap.size := by simp; omega
  have HSZ := Lib.hid hsz
  have HB4 := Lib.hid (hb4.alloc (.cells #[] 92))
  have HB6 := Lib.hid (hb6.alloc (.cells #[] 92))
  have HB7 := Lib.hid (hb7.alloc (.cells #[] 92))
  have HB8 := Lib.hid (hb8.alloc (.cells #[] 92))
  have HB9 := Lib.hid (hb9.alloc (.cells #[] 92))
  have HBL := Lib.hid (hbl.alloc (by rw [hzz]; omega) (.cells #[] 92))
  have HZZ : Hid ((((((((w.alloc (.cells #[.int .i64 mrc, .int .i64 mdl, .int .i64 mro, .int .i64 mj, .int .i64 mlv, .slice aA an ac, .slice lA n lc, .slice fA F.length fc, .int .i64 mu, .int .i64 ms.sent, .int .i64 ms.lost, .int .i64 ms.dropped, .int .i64 ms.doubled, .int .i64 ms.late, .int .i64 ms.turned] 59)).alloc (.cells #[.int .i64 (p : Int)] 3)).alloc (.cells #[.int .i64 now] 3)).alloc (.cells #[.int .i64 0, .int .i64 0, .int .i64 0, .int .i64 0, .int .i64 0, .slice none 0 0, .slice none 0 0, .slice none 0 0, .int .i64 0, .int .i64 0, .int .i64 0, .int .i64 0, .int .i64 0, .int .i64 0, .int .i64 0] 59)).alloc (.cells #[.bool false] 4)).alloc (.cells #[] 92))).heap.size = w.heap.size + 1 + 1 + 1 + 1 + 1 + 1) := by show _ = _; rw [World.size_alloc, hzz]
  have q4 := hb4.cell 6 rfl
  have HRC : Hid (mrc = (gd.l.length : Int)) := hrc
  clear hrc hN hp hm hX hrel hpl hvs hPl hv hpv hset hnn han hlw hb4 hb6 hb7 hb8 hb9 hbl hzz hmade hsz hi0 hz0 hz1 hz2
  refine callsIn_wide.1 (callsIn_of_wp_marks (F := Fence.wide) (n := 9) Try.func37 rfl trivial ?_)
  rw [wpIn_wide]
  simp only [Try.ntmps37, List.size_toArray, List.length_cons, List.length_nil, Nat.reduceAdd, Nat.reduceSub, Array.replicate_succ, Array.replicate_zero, List.push_toArray, List.append_toArray, List.nil_append, List.cons_append]
  go_wp2_with (at_builtin; refine wpList_appR rfl _ _ 55 rfl w.heap.size 92 i0 (.slice none 0 0) 1 24 Try.underlying55 HI0.out HZ0.out HZ1.out HZ2.out rfl _ 0 [] rfl HMADE.out _ n vs rfl HLR.out HM.out.one (by unfold maxLen; omega) (by omega) HSZ.out ?_; rintro A2 c2 w2 hown2 hk2 hg2 -; rw [Nat.zero_add, List.nil_append] at hown2; rw [Nat.zero_add]; have HO2 := Lib.hid hown2; have HK2 : Hid (Keep (fun k => k = (w.heap.size + 1 + 1 + 1 + 1 + 1)) ((((((w.alloc (.cells #[.int .i64 mrc, .int .i64 mdl, .int .i64 mro, .int .i64 mj, .int .i64 mlv, .slice aA an ac, .slice lA n lc, .slice fA F.length fc, .int .i64 mu, .int .i64 ms.sent, .int .i64 ms.lost, .int .i64 ms.dropped, .int .i64 ms.doubled, .int .i64 ms.late, .int .i64 ms.turned] 59)).alloc (.cells #[.int .i64 (p : Int)] 3)).alloc (.cells #[.int .i64 now] 3)).alloc (.cells #[.int .i64 0, .int .i64 0, .int .i64 0, .int .i64 0, .int .i64 0, .slice none 0 0, .slice none 0 0, .slice none 0 0, .int .i64 0, .int .i64 0, .int .i64 0, .int .i64 0, .int .i64 0, .int .i64 0, .int .i64 0] 59)).alloc (.cells #[.bool false] 4)).alloc (.cells #[] 92)) w2) := Lib.hid (hk2.mono (fun q _ e => by cases e; rfl)); have HG2 := Lib.hid hg2; have HB42 := Lib.hid ((HB4.out.keep HK2.out (by omega)).alloc (.cells #[.slice A2 n c2] 55)); have y6 := HB42.out.cell 6 rfl; have f6 := HB42.out.frozen 6; have x60 := (((HB6.out.keep HK2.out (by omega)).alloc (.cells #[.slice A2 n c2] 55)).setOther (p := ⟨w.heap.size, 6, none⟩) (show w.heap.size + 1 ≠ w.heap.size by omega) (.slice A2 n c2)).cell 0 rfl; have x70 := (((HB7.out.keep HK2.out (by omega)).alloc (.cells #[.slice A2 n c2] 55)).setOther (p := ⟨w.heap.size, 6, none⟩) (show w.heap.size + 1 + 1 ≠ w.heap.size by omega) (.slice A2 n c2)).cell 0 rfl; clear hown2 hk2 hg2)
  obtain ⟨g2, cap2, hv2, hg2ge⟩ : ∃ g2 cap, (Value.slice A2 n c2) = .slice (some ⟨g2, 0, none⟩) n cap ∧ w.heap.size + 1 + 1 + 1 + 1 + 1 ≤ g2 := by
    rcases HO2.out.2 with ⟨h, h'⟩ | ⟨g2, cap, cur, h, h1, h2, -⟩
    · omega
    · refine ⟨g2, cap, h, ?_⟩
      rcases HG2.out g2 (by rw [Nat.zero_add, h]; rfl) with h3 | h3
      · have h4 : (w.heap.size + 1 + 1 + 1 + 1 + 1) = g2 := Option.some.inj h3
        omega
      · have := HZZ.out; omega
  obtain ⟨rfl, rfl⟩ : A2 = some ⟨g2, 0, none⟩ ∧ c2 = cap2 := by injection hv2 with h1 _ h3; exact ⟨h1, h3⟩
  have HGE := Lib.hid hg2ge
  have HG2L : Hid (g2 < w2.heap.size) := (HO2.out.lt g2 rfl).2
  have HZ2' : Hid (w.heap.size + 1 + 1 + 1 + 1 + 1 + 1 ≤ w2.heap.size) := by have h1 := HK2.out.size; have h2 := HZZ.out; show _ ≤ _; omega
  clear hv2 hg2ge y6 f6 x60 x70 q4
  -- the world behind 'm.lists = lists'
  have hbA : Below w2.heap.size w2 (w2.alloc (.cells #[.slice (some ⟨g2, 0, none⟩) n c2] 55)) := (Below.refl _ w2).alloc (Nat.le_refl _) _
  have hkA : Keep (fun q => q = w.heap.size) (w2.alloc (.cells #[.slice (some ⟨g2, 0, none⟩) n c2] 55)) ((w2.alloc (.cells #[.slice (some ⟨g2, 0, none⟩) n c2] 55)).setCell ⟨w.heap.size, 6, none⟩ (.slice (some ⟨g2, 0, none⟩) n c2)) := (Keep.refl (fun q => q = w.heap.size) _).setCell (p := ⟨w.heap.size, 6, none⟩) (.inl rfl) _
  have H4 : Hid (Blk ((w2.alloc (.cells #[.slice (some ⟨g2, 0, none⟩) n c2] 55)).setCell ⟨w.heap.size, 6, none⟩ (.slice (some ⟨g2, 0, none⟩) n c2)) w.heap.size #[.int .i64 mrc, .int .i64 mdl, .int .i64 mro, .int .i64 mj, .int .i64 mlv, .slice aA an ac, .slice (some ⟨g2, 0, none⟩) n c2, .slice fA F.length fc, .int .i64 mu, .int .i64 ms.sent, .int .i64 ms.lost, .int .i64 ms.dropped, .int .i64 ms.doubled, .int .i64 ms.late, .int .i64 ms.turned] 59) := HB42.out.set' rfl
  have H6 := Lib.hid (((HB6.out.keep HK2.out (by omega)).below hbA).keep hkA (by omega))
  have H7 := Lib.hid (((HB7.out.keep HK2.out (by omega)).below hbA).keep hkA (by omega))
  have H8 := Lib.hid (((HB8.out.keep HK2.out (by omega)).below hbA).keep hkA (by omega))
  have H9 := Lib.hid (((HB9.out.keep HK2.out (by omega)).below hbA).keep hkA (by omega))
  have H10 : Hid (Blk ((w2.alloc (.cells #[.slice (some ⟨g2, 0, none⟩) n c2] 55)).setCell ⟨w.heap.size, 6, none⟩ (.slice (some ⟨g2, 0, none⟩) n c2)) w2.heap.size #[.slice (some ⟨g2, 0, none⟩) n c2] 55) := (Blk.new w2 _ _).keep hkA (by have := HZ2'.out; omega)
  have HRW := Lib.hid (ownsRow_keep (ownsRow_keep HO2.out (Keep.none hbA) (fun _ _ => id)) hkA (fun g hg e => by have hq : g2 = g := Option.some.inj hg; have := HGE.out; omega))
  have HW3 : Hid (Below w.heap.size w ((w2.alloc (.cells #[.slice (some ⟨g2, 0, none⟩) n c2] 55)).setCell ⟨w.heap.size, 6, none⟩ (.slice (some ⟨g2, 0, none⟩) n c2))) := bkeep (bmore (bkeep HBL.out HK2.out (Nat.le_refl _) (fun q e => by rw [e]; omega)) hbA (by have := HZ2'.out; omega)) hkA (Nat.le_refl _) (fun q e => by omega)
  have HZ3 : Hid (((w2.alloc (.cells #[.slice (some ⟨g2, 0, none⟩) n c2] 55)).setCell ⟨w.heap.size, 6, none⟩ (.slice (some ⟨g2, 0, none⟩) n c2)).heap.size = w2.heap.size + 1) := by show _ = _; simp
  clear hbA hkA HMADE HLR HSZ HB4 HB6 HB7 HB8 HB9 HBL HZZ HK2 HG2 HB42 HO2
  generalize (w2.alloc (.cells #[.slice (some ⟨g2, 0, none⟩) n c2] 55)).setCell ⟨w.heap.size, 6, none⟩ (.slice (some ⟨g2, 0, none⟩) n c2) = w3 at *
  obtain ⟨p10, hp10⟩ : ∃ p10, p10 = w2.heap.size := ⟨_, rfl⟩
  rw [← hp10] at H10 HG2L HZ2' HZ3 ⊢
  clear hp10
  clear w2
  have HN3 := Lib.hid (HNT.out.below HW3.out)
  refine (netTake_yes HN3.out p pd now HP.out hat HPP.out).mono ?_
  rintro e w6 ⟨rfl, hpb, hpn, hb6⟩
  obtain ⟨pB, hpB⟩ : ∃ pB, pB = w3.heap.size := ⟨_, rfl⟩
  rw [← hpB] at hpb hpn ⊢
  have HPB3 : Hid (w3.heap.size ≤ pB) := Nat.le_of_eq hpB.symm
  clear hpB
  have HKB := Lib.hid hpb
  have HKN := Lib.hid hpn
  have HN6 := Lib.hid (HN3.out.below hb6)
  have H46 := Lib.hid (H4.out.below hb6)
  have H66 := Lib.hid (H6.out.below hb6)
  have H76 := Lib.hid (H7.out.below hb6)
  have H86 := Lib.hid (H8.out.below hb6)
  have H96 := Lib.hid (H9.out.below hb6)
  have H106 := Lib.hid (H10.out.below hb6)
  have HRW6 := Lib.hid (ownsRow_keep HRW.out (Keep.none hb6) (fun _ _ => id))
  have HW6 := Lib.hid (bmore HW3.out hb6 HW3.out.size)
  have HZ6 : Hid (pB + 1 < w6.heap.size) := hpn.lt
  clear hpb hpn hb6 HN3 H4 H6 H7 H8 H9 H10 HRW HW3
  have x40 := H46.out.cell 0 rfl
  have x60 := H66.out.cell 0 rfl
  have hne : ((p : Int) == mrc) = false := by have := HRC.out; simp; omega
  go_wp2_with fail
  have HPI := Lib.hid (HN6.out.pipes p pd HP.out)
  have HFAR : Hid (∀ x, col x ≠ 0 → x < w.heap.size) := fun x hx => HNT.out.lt hx
  have HB6 : Hid (Bx w6 w.heap.size (w.heap.size + 1) (w.heap.size + 1 + 1) (w.heap.size + 1 + 1 + 1) (w.heap.size + 1 + 1 + 1 + 1) p10 #[.int .i64 mrc, .int .i64 mdl, .int .i64 mro, .int .i64 mj, .int .i64 mlv, .slice aA an ac, .slice (some ⟨g2, 0, none⟩) n c2, .slice fA F.length fc, .int .i64 mu, .int .i64 ms.sent, .int .i64 ms.lost, .int .i64 ms.dropped, .int .i64 ms.doubled, .int .i64 ms.late, .int .i64 ms.turned] #[.int .i64 (p : Int)] #[.int .i64 now] #[.int .i64 0, .int .i64 0, .int .i64 0, .int .i64 0, .int .i64 0, .slice none 0 0, .slice none 0 0, .slice none 0 0, .int .i64 0, .int .i64 0, .int .i64 0, .int .i64 0, .int .i64 0, .int .i64 0, .int .i64 0] #[.bool false] #[.slice (some ⟨g2, 0, none⟩) n c2]) := ⟨H46.out, H66.out, H76.out, H86.out, H96.out, H106.out⟩
  have HTI : Hid (TI w col g2 n c2 p vs pd.l 0 w6) := ⟨v, X, by rw [HSET.out]; exact HRW6.out, ownsRow_keep HEX.out.1 (Keep.none HW6.out) (fun _ _ => id), HREL.out, fun g hg => ⟨HEX.out.2 g hg, by have h1 := (HEX.out.1.lt g hg).2; have h2 := HGE.out; omega⟩⟩
  have HH6 := Lib.hid (HN6.out.hole p)
  have HT6 : Hid (∀ x, x = pd.b ∨ pd.v.ownBlock = some x → col x = 6 + p) := fun x hx => hx.elim (fun e => by rw [e]; exact HPI.out.gb) (fun e => HPI.out.gv x e)
  have hz3 := HZ3.out
  have hg2l := HG2L.out
  have hge := HGE.out
  have hzp := HZ2'.out
  have hpb3 := HPB3.out
  have hzz6 := HZ6.out
  have HSEQ := Lib.hid (take_seq (9 - 1) (by omega) pB (pB + 1) pd.b pd.v.ownBlock pd.l room now (fun x => col x = 6 + p) (fun q => q = g2 ∨ w6.heap.size ≤ q) w6
    (fun q hq => by have hq : col q = 6 + p ∨ col q = 5 := hq; have h1 := HFAR.out q (by omega); exact ⟨fun e => by omega, by omega⟩) HPI.out.gb HPI.out.gv
    ⟨fun e => by have e' : col pB = 6 + p := e; have h1 := HFAR.out pB (by omega); omega, fun e => by omega⟩ ⟨fun e => by have e' : col (pB + 1) = 6 + p := e; have h1 := HFAR.out (pB + 1) (by omega); omega, fun e => by omega⟩
    (by have := HPL.out; omega) HKB.out HKN.out ⟨pd.v, HPI.out, rfl⟩)
  have HKP6 : Hid (Keep (fun q => col q = 6 + p) w w6) := Keep.ofBelowAll HW6.out
  have HORD : Hid (w.heap.size + 1 + 1 + 1 + 1 + 1 ≤ g2 ∧ g2 < p10 ∧ p10 < pB ∧ pB + 1 < w6.heap.size) := ⟨by omega, by omega, by omega, by omega⟩
  clear hz3 hg2l hge hzp hpb3 hzz6 H46 H66 H76 H86 H96 H106 HRW6 HEX HV HXX x40 x60 hne HZ3 HZ2' HG2L HPB3 HZ6 HGE HPI HN6 HREL
  refine (wpIn_wide (n := 9)).1 ?_
  refine' wpIn_rangeOwnY (F := Fence.wide) (n := 9) rfl (by omega) (gf := 46) (lb := #[.pointer (some ⟨pB, 0, none⟩), .pointer (some ⟨pB + 1, 0, none⟩)]) rfl trivial (enters_of Try.func46 (by kernel_rfl) rfl)
    HSEQ.out (fun pre x N W l o o' h hl ho hc => h.turn ho hc) (fun h k => h.trans k) (fun W l o o' hl ho hc => keepC_turn ho hc _)
    (fun q hq => by have h1 := HFAR.out q (by rw [HT6.out q hq]; omega); have h2 := HORD.out; omega) (fun _ => rfl)
    (fun xs W l o o' h hl ho hc => ⟨h.1.turn ho hc, h.2⟩) (fun pre W l o o' h hl ho hc => ⟨h.1.turn ho hc, h.2⟩)
    (fun (pre : List Yd) W => Bx W w.heap.size (w.heap.size + 1) (w.heap.size + 1 + 1) (w.heap.size + 1 + 1 + 1) (w.heap.size + 1 + 1 + 1 + 1) p10 #[.int .i64 mrc, .int .i64 mdl, .int .i64 mro, .int .i64 mj, .int .i64 mlv, .slice aA an ac, .slice (some ⟨g2, 0, none⟩) n c2, .slice fA F.length fc, .int .i64 mu, .int .i64 ms.sent, .int .i64 ms.lost, .int .i64 ms.dropped, .int .i64 ms.doubled, .int .i64 ms.late, .int .i64 ms.turned] #[.int .i64 (p : Int)] #[.int .i64 now] #[.int .i64 0, .int .i64 0, .int .i64 0, .int .i64 0, .int .i64 0, .slice none 0 0, .slice none 0 0, .slice none 0 0, .int .i64 0, .int .i64 0, .int .i64 0, .int .i64 0, .int .i64 0, .int .i64 0, .int .i64 0] #[.bool false] #[.slice (some ⟨g2, 0, none⟩) n c2] ∧ TI w col g2 n c2 p vs pd.l pre.length W ∧ NetHole W col p nb gd delay room pv P fvN FN usedN' sN ∧ Keep (fun q => col q = 6 + p) w W) (fun _ _ _ => False)
    (fun pre W l o o' h hl ho hc => ⟨h.1.turn ho hc, h.2.1.keepC (keepC_turn ho hc (fun _ => False)) id (fun q hq => hq.elim), h.2.2.1.turn ho hc, keep_turn h.2.2.2 (Nat.le_trans HW6.out.size hl)⟩) (fun c pre W l o o' h _ _ _ => h)
    (fun pre A B h k => ⟨h.1.keepC k.toC (fun q hq e => by have h1 := HFAR.out q (by rw [HT6.out q e]; omega); have h2 := HORD.out; omega), h.2.1.keepC k.toC (fun e => by have h1 := HFAR.out g2 (by rw [HT6.out g2 e]; omega); have h2 := HORD.out; omega) (fun q hq _ => by rw [HT6.out q hq]; omega), h.2.2.1.keep k (fun x _ hx e => hx (HT6.out x e)), h.2.2.2.trans k (fun q _ e => HT6.out q e)⟩)
    ⟨HB6.out, HTI.out, HH6.out, HKP6.out⟩ _ ?assign ?body ?done ?stop
  case assign =>
    intro l x W K hK
    gi_wp2
    exact hK
  case stop =>
    rintro D c pre W hD hSp hx hK
    exact hx.elim
  case body =>
    rintro lr pre ⟨yA, yn, yc, ybs⟩ W0 W hi0 hkc hi hy
    obtain ⟨⟨m, hm, hmd, hxb⟩, hyo, hyl, hyn, hyt⟩ := hy
    dsimp only at hxb hyo hyl hyn
    have hdr := drop_cons hm
    obtain ⟨v1, X1, h1, h2, h3, h4⟩ := hi.2.1.ex
    rw [hdr] at h3
    obtain ⟨i, hil, hif, hXi, ht⟩ := head_first h3
    obtain ⟨A1, c1, rfl⟩ := ownsRow_slice h2
    have hX1l : X1.length ≤ 10000 := by
      have h5 := sorted_len X1
      rw [← h3, List.length_map, ← hdr, List.length_drop] at h5
      have h6 := HPL.out
      omega
    have HPV : Hid (p < vs.length) := by have := HNN.out; show _ < _; omega
    have HH1 := Lib.hid h1
    have HH2 := Lib.hid h2
    have HH4 := Lib.hid h4
    have HT := Lib.hid ht
    have HBX := Lib.hid hi.1
    have HNH := Lib.hid hi.2.2.1
    have HKW := Lib.hid hi.2.2.2
    have HYO := Lib.hid hyo
    have HMB := Lib.hid hxb
    have HXI := Lib.hid hXi
    have hfa := HFA.out (.slice A1 X1.length c1) X1 W (Reads.of_owns h2) (by omega)
    rw [hif] at hfa
    have HF1 := Lib.hid hfa
    have x10 : W.cell? ⟨p10, 0, none⟩ = some (.slice (some ⟨g2, 0, none⟩) n c2) := hi.1.b10.cell 0 rfl
    have x6 : W.cell? ⟨w.heap.size + 1, 0, none⟩ = some (.int .i64 (p : Int)) := hi.1.b6.cell 0 rfl
    have x2 : W.cell? ⟨g2, p, none⟩ = some (.slice A1 X1.length c1) := ownsRow_cell h1 (j := p) (List.getElem?_set_self HPV.out)
    clear hm hdr h1 h2 h3 h4 hi hi0 hkc hyo hyt hfa hif ht hxb hXi
    gi_wp2
    refine ⟨trivial, (CallsIn.inRound lr (callsIn_wide.2 HF1.out)).mono ?_⟩
    rintro e w7 ⟨rfl, hb7⟩
    have HB7 := Lib.hid hb7
    have HBX7 := Lib.hid (HBX.out.keepC (Keep.none hb7).toC (fun _ _ h => h))
    have HR7 : Hid (ROwnB w7 (.slice A1 X1.length c1) X1) := ownsRow_keep HH2.out (Keep.none hb7) (fun _ _ h => h)
    have HH17 : Hid (w7.ownsRow w.heap.size 92 1 (.slice (some ⟨g2, 0, none⟩) n c2) n (vs.set p (.slice A1 X1.length c1))) := ownsRow_keep HH1.out (Keep.none hb7) (fun _ _ h => h)
    have HY7 : Hid (w7.ownsRow W0.heap.size 5 1 (.slice yA yn yc) yn (u8s ybs)) := ownsRow_keep HYO.out (Keep.none hb7) (fun _ _ h => h)
    have HNH7 := Lib.hid (HNH.out.keep (Keep.none hb7) (fun _ _ _ h => h))
    have HKW7 : Hid (Keep (fun q => col q = 6 + p) w w7) := HKW.out.trans (Keep.none hb7) (fun _ _ h => h.elim)
    clear hb7 x10 x6 x2 HBX HH1 HH2 HNH HKW HF1
    obtain ⟨g, o, cc, he, y0, y1⟩ := RAt.at (v := (.slice A1 X1.length c1)) (Reads.of_owns HR7.out) HXI.out
    cases he
    have x10 : w7.cell? ⟨p10, 0, none⟩ = some (.slice (some ⟨g2, 0, none⟩) n c2) := HBX7.out.b10.cell 0 rfl
    have x6 : w7.cell? ⟨w.heap.size + 1, 0, none⟩ = some (.int .i64 (p : Int)) := HBX7.out.b6.cell 0 rfl
    have x7 : w7.cell? ⟨w.heap.size + 1 + 1, 0, none⟩ = some (.int .i64 now) := HBX7.out.b7.cell 0 rfl
    have x2 : w7.cell? ⟨g2, p, none⟩ = some (.slice (some ⟨g, o, none⟩) X1.length c1) := ownsRow_cell HH17.out (j := p) (List.getElem?_set_self HPV.out)
    have hcv : (convert 23 9 (.slice yA yn yc)).run Try.prog w7.drew = .ok (.string (strOfNums m.bs)) w7.drew := by
      rw [← HMB.out]
      exact conv_ints (Reads.of_owns (show w7.drew.ownsRow _ _ _ _ _ _ from HY7.out))
    have d1 : decide ((i : Int) < 0) = false := decide_eq_false (by omega)
    have d2 : decide (now < m.due) = false := decide_eq_false (by omega)
    have i1 : (0 : Int) ≤ (i : Int) := by omega
    have i2 : (i : Int) < (X1.length : Int) := by omega
    replace y0 : w7.cell? ⟨g, o + i * 2, none⟩ = some (.int .i64 m.due) := y0
    replace y1 : w7.cell? ⟨g, o + i * 2 + 1, none⟩ = some (.string (strOfNums m.bs)) := y1
    gi_wp2
    refine wpIn_region_det (by kernel_rfl) (by kernel_rfl) ?_
    refine det_take (i := 0) (oi := { dst := some 40, op := Op.move (Operand.tmp 13), type := 3, pos := "law.go:90", after := #[], guard := none }) (v := ?_) rfl (by kernel_rfl) (by kernel_rfl) (by kernel_rfl) (Or.inl ⟨by rfl, ?_, by rfl⟩) ?_
    rotate_left 1
    · (go_simp <;> with_reducible rfl)
    (try simp only [Act.put, List.setIfInBounds_toArray, List.set_cons_zero, List.set_cons_succ])
    refine det_take (i := 1) (oi := { dst := some 41, op := Op.binOp BinOp.lss 3 (Operand.tmp 40) (Operand.const (Value.int IntKind.i64 0)) 3, type := 4, pos := "law.go:90", after := #[{ on := 0, ground := Ground.data }], guard := none }) (v := ?_) rfl (by kernel_rfl) (by kernel_rfl) (by kernel_rfl) (Or.inl ⟨by rfl, ?_, by rfl⟩) ?_
    rotate_left 1
    · (go_simp <;> with_reducible rfl)
    (try simp only [Act.put, List.setIfInBounds_toArray, List.set_cons_zero, List.set_cons_succ])
    refine det_take (i := 2) (oi := { dst := some 42, op := Op.move (Operand.tmp 41), type := 4, pos := "law.go:90", after := #[{ on := 1, ground := Ground.data }], guard := none }) (v := ?_) rfl (by kernel_rfl) (by kernel_rfl) (by kernel_rfl) (Or.inl ⟨by rfl, ?_, by rfl⟩) ?_
    rotate_left 1
    · (go_simp <;> with_reducible rfl)
    (try simp only [Act.put, List.setIfInBounds_toArray, List.set_cons_zero, List.set_cons_succ])
    refine det_take (i := 3) (oi := { dst := some 43, op := Op.load 55 (Operand.tmp 10), type := 55, pos := "law.go:90", after := #[{ on := 2, ground := Ground.guard }], guard := some (2, false) }) (v := ?_) rfl (by kernel_rfl) (by kernel_rfl) (by kernel_rfl) (Or.inl ⟨by rfl, ?_, by rfl⟩) ?_
    rotate_left 1
    · (go_simp <;> with_reducible rfl)
    (try simp only [Act.put, List.setIfInBounds_toArray, List.set_cons_zero, List.set_cons_succ])
    refine det_take (i := 4) (oi := { dst := some 44, op := Op.load 3 (Operand.tmp 6), type := 3, pos := "law.go:90", after := #[{ on := 2, ground := Ground.guard }], guard := some (2, false) }) (v := ?_) rfl (by kernel_rfl) (by kernel_rfl) (by kernel_rfl) (Or.inl ⟨by rfl, ?_, by rfl⟩) ?_
    rotate_left 1
    · (go_simp <;> with_reducible rfl)
    (try simp only [Act.put, List.setIfInBounds_toArray, List.set_cons_zero, List.set_cons_succ])
    refine det_take (i := 5) (oi := { dst := some 45, op := Op.indexAddr 55 (Operand.tmp 43) (Operand.tmp 44), type := 0, pos := "law.go:90", after := #[{ on := 3, ground := Ground.data }, { on := 4, ground := Ground.data }, { on := 2, ground := Ground.guard }], guard := some (2, false) }) (v := ?_) rfl (by kernel_rfl) (by kernel_rfl) (by kernel_rfl) (Or.inl ⟨by rfl, ?_, by rfl⟩) ?_
    rotate_left 1
    · (go_simp <;> with_reducible rfl)
    (try simp only [Act.put, List.setIfInBounds_toArray, List.set_cons_zero, List.set_cons_succ])
    refine det_take (i := 6) (oi := { dst := some 46, op := Op.load 92 (Operand.tmp 45), type := 92, pos := "law.go:90", after := #[{ on := 5, ground := Ground.data }, { on := 2, ground := Ground.guard }], guard := some (2, false) }) (v := ?_) rfl (by kernel_rfl) (by kernel_rfl) (by kernel_rfl) (Or.inl ⟨by rfl, ?_, by rfl⟩) ?_
    rotate_left 1
    · (go_simp <;> with_reducible rfl)
    (try simp only [Act.put, List.setIfInBounds_toArray, List.set_cons_zero, List.set_cons_succ])
    refine det_take (i := 7) (oi := { dst := some 47, op := Op.move (Operand.tmp 13), type := 3, pos := "law.go:90", after := #[{ on := 2, ground := Ground.guard }], guard := some (2, false) }) (v := ?_) rfl (by kernel_rfl) (by kernel_rfl) (by kernel_rfl) (Or.inl ⟨by rfl, ?_, by rfl⟩) ?_
    rotate_left 1
    · (go_simp <;> with_reducible rfl)
    (try simp only [Act.put, List.setIfInBounds_toArray, List.set_cons_zero, List.set_cons_succ])
    refine det_take (i := 8) (oi := { dst := some 48, op := Op.indexAddr 92 (Operand.tmp 46) (Operand.tmp 47), type := 0, pos := "law.go:90", after := #[{ on := 6, ground := Ground.data }, { on := 7, ground := Ground.data }, { on := 2, ground := Ground.guard }], guard := some (2, false) }) (v := ?_) rfl (by kernel_rfl) (by kernel_rfl) (by kernel_rfl) (Or.inl ⟨by rfl, ?_, by rfl⟩) ?_
    rotate_left 1
    · (go_simp <;> with_reducible rfl)
    (try simp only [Act.put, List.setIfInBounds_toArray, List.set_cons_zero, List.set_cons_succ])
    refine det_take (i := 9) (oi := { dst := some 49, op := Op.fieldAddr 110 (Operand.tmp 48) 0, type := 0, pos := "law.go:90", after := #[{ on := 8, ground := Ground.data }, { on := 2, ground := Ground.guard }], guard := some (2, false) }) (v := ?_) rfl (by kernel_rfl) (by kernel_rfl) (by kernel_rfl) (Or.inl ⟨by rfl, ?_, by rfl⟩) ?_
    rotate_left 1
    · (go_simp <;> with_reducible rfl)
    (try simp only [Act.put, List.setIfInBounds_toArray, List.set_cons_zero, List.set_cons_succ])
    refine det_take (i := 10) (oi := { dst := some 50, op := Op.load 3 (Operand.tmp 49), type := 3, pos := "law.go:90", after := #[{ on := 9, ground := Ground.data }, { on := 2, ground := Ground.guard }], guard := some (2, false) }) (v := ?_) rfl (by kernel_rfl) (by kernel_rfl) (by kernel_rfl) (Or.inl ⟨by rfl, ?_, by rfl⟩) ?_
    rotate_left 1
    · (go_simp <;> with_reducible rfl)
    (try simp only [Act.put, List.setIfInBounds_toArray, List.set_cons_zero, List.set_cons_succ])
    refine det_take (i := 11) (oi := { dst := some 51, op := Op.load 3 (Operand.tmp 7), type := 3, pos := "law.go:90", after := #[{ on := 2, ground := Ground.guard }], guard := some (2, false) }) (v := ?_) rfl (by kernel_rfl) (by kernel_rfl) (by kernel_rfl) (Or.inl ⟨by rfl, ?_, by rfl⟩) ?_
    rotate_left 1
    · (go_simp <;> with_reducible rfl)
    (try simp only [Act.put, List.setIfInBounds_toArray, List.set_cons_zero, List.set_cons_succ])
    refine det_take (i := 12) (oi := { dst := some 52, op := Op.binOp BinOp.gtr 3 (Operand.tmp 50) (Operand.tmp 51) 3, type := 4, pos := "law.go:90", after := #[{ on := 10, ground := Ground.data }, { on := 11, ground := Ground.data }, { on := 2, ground := Ground.guard }], guard := some (2, false) }) (v := ?_) rfl (by kernel_rfl) (by kernel_rfl) (by kernel_rfl) (Or.inl ⟨by rfl, ?_, by rfl⟩) ?_
    rotate_left 1
    · (go_simp <;> with_reducible rfl)
    (try simp only [Act.put, List.setIfInBounds_toArray, List.set_cons_zero, List.set_cons_succ])
    refine det_take (i := 13) (oi := { dst := some 53, op := Op.pick (Operand.tmp 42) (Operand.const (Value.bool true)) (Operand.tmp 52), type := 4, pos := "law.go:90", after := #[{ on := 2, ground := Ground.data }, { on := 12, ground := Ground.data }], guard := none }) (v := ?_) rfl (by kernel_rfl) (by kernel_rfl) (by kernel_rfl) (Or.inl ⟨by rfl, ?_, by rfl⟩) ?_
    rotate_left 1
    · (go_simp <;> with_reducible rfl)
    (try simp only [Act.put, List.setIfInBounds_toArray, List.set_cons_zero, List.set_cons_succ])
    refine det_take (i := 14) (oi := { dst := some 54, op := Op.move (Operand.tmp 53), type := 4, pos := "law.go:90", after := #[{ on := 13, ground := Ground.data }, { on := 2, ground := Ground.chain }], guard := none }) (v := ?_) rfl (by kernel_rfl) (by kernel_rfl) (by kernel_rfl) (Or.inl ⟨by rfl, ?_, by rfl⟩) ?_
    rotate_left 1
    · (go_simp <;> with_reducible rfl)
    (try simp only [Act.put, List.setIfInBounds_toArray, List.set_cons_zero, List.set_cons_succ])
    refine det_take (i := 15) (oi := { dst := some 55, op := Op.load 55 (Operand.tmp 10), type := 55, pos := "law.go:90", after := #[{ on := 14, ground := Ground.guard }], guard := some (14, false) }) (v := ?_) rfl (by kernel_rfl) (by kernel_rfl) (by kernel_rfl) (Or.inl ⟨by rfl, ?_, by rfl⟩) ?_
    rotate_left 1
    · (go_simp <;> with_reducible rfl)
    (try simp only [Act.put, List.setIfInBounds_toArray, List.set_cons_zero, List.set_cons_succ])
    refine det_take (i := 16) (oi := { dst := some 56, op := Op.load 3 (Operand.tmp 6), type := 3, pos := "law.go:90", after := #[{ on := 14, ground := Ground.guard }], guard := some (14, false) }) (v := ?_) rfl (by kernel_rfl) (by kernel_rfl) (by kernel_rfl) (Or.inl ⟨by rfl, ?_, by rfl⟩) ?_
    rotate_left 1
    · (go_simp <;> with_reducible rfl)
    (try simp only [Act.put, List.setIfInBounds_toArray, List.set_cons_zero, List.set_cons_succ])
    refine det_take (i := 17) (oi := { dst := some 57, op := Op.indexAddr 55 (Operand.tmp 55) (Operand.tmp 56), type := 0, pos := "law.go:90", after := #[{ on := 15, ground := Ground.data }, { on := 16, ground := Ground.data }, { on := 14, ground := Ground.guard }], guard := some (14, false) }) (v := ?_) rfl (by kernel_rfl) (by kernel_rfl) (by kernel_rfl) (Or.inl ⟨by rfl, ?_, by rfl⟩) ?_
    rotate_left 1
    · (go_simp <;> with_reducible rfl)
    (try simp only [Act.put, List.setIfInBounds_toArray, List.set_cons_zero, List.set_cons_succ])
    refine det_take (i := 18) (oi := { dst := some 58, op := Op.load 92 (Operand.tmp 57), type := 92, pos := "law.go:90", after := #[{ on := 17, ground := Ground.data }, { on := 14, ground := Ground.guard }], guard := some (14, false) }) (v := ?_) rfl (by kernel_rfl) (by kernel_rfl) (by kernel_rfl) (Or.inl ⟨by rfl, ?_, by rfl⟩) ?_
    rotate_left 1
    · (go_simp <;> with_reducible rfl)
    (try simp only [Act.put, List.setIfInBounds_toArray, List.set_cons_zero, List.set_cons_succ])
    refine det_take (i := 19) (oi := { dst := some 59, op := Op.move (Operand.tmp 13), type := 3, pos := "law.go:90", after := #[{ on := 14, ground := Ground.guard }], guard := some (14, false) }) (v := ?_) rfl (by kernel_rfl) (by kernel_rfl) (by kernel_rfl) (Or.inl ⟨by rfl, ?_, by rfl⟩) ?_
    rotate_left 1
    · (go_simp <;> with_reducible rfl)
    (try simp only [Act.put, List.setIfInBounds_toArray, List.set_cons_zero, List.set_cons_succ])
    refine det_take (i := 20) (oi := { dst := some 60, op := Op.indexAddr 92 (Operand.tmp 58) (Operand.tmp 59), type := 0, pos := "law.go:90", after := #[{ on := 18, ground := Ground.data }, { on := 19, ground := Ground.data }, { on := 14, ground := Ground.guard }], guard := some (14, false) }) (v := ?_) rfl (by kernel_rfl) (by kernel_rfl) (by kernel_rfl) (Or.inl ⟨by rfl, ?_, by rfl⟩) ?_
    rotate_left 1
    · (go_simp <;> with_reducible rfl)
    (try simp only [Act.put, List.setIfInBounds_toArray, List.set_cons_zero, List.set_cons_succ])
    refine det_take (i := 21) (oi := { dst := some 61, op := Op.fieldAddr 110 (Operand.tmp 60) 1, type := 0, pos := "law.go:90", after := #[{ on := 20, ground := Ground.data }, { on := 14, ground := Ground.guard }], guard := some (14, false) }) (v := ?_) rfl (by kernel_rfl) (by kernel_rfl) (by kernel_rfl) (Or.inl ⟨by rfl, ?_, by rfl⟩) ?_
    rotate_left 1
    · (go_simp <;> with_reducible rfl)
    (try simp only [Act.put, List.setIfInBounds_toArray, List.set_cons_zero, List.set_cons_succ])
    refine det_take (i := 22) (oi := { dst := some 62, op := Op.load 9 (Operand.tmp 61), type := 9, pos := "law.go:90", after := #[{ on := 21, ground := Ground.data }, { on := 14, ground := Ground.guard }], guard := some (14, false) }) (v := ?_) rfl (by kernel_rfl) (by kernel_rfl) (by kernel_rfl) (Or.inl ⟨by rfl, ?_, by rfl⟩) ?_
    rotate_left 1
    · (go_simp <;> with_reducible rfl)
    (try simp only [Act.put, List.setIfInBounds_toArray, List.set_cons_zero, List.set_cons_succ])
    refine det_take (i := 23) (oi := { dst := some 63, op := Op.move (Operand.tmp 12), type := 23, pos := "law.go:90", after := #[{ on := 14, ground := Ground.guard }], guard := some (14, false) }) (v := ?_) rfl (by kernel_rfl) (by kernel_rfl) (by kernel_rfl) (Or.inl ⟨by rfl, ?_, by rfl⟩) ?_
    rotate_left 1
    · (go_simp <;> with_reducible rfl)
    (try simp only [Act.put, List.setIfInBounds_toArray, List.set_cons_zero, List.set_cons_succ])
    refine det_take (i := 24) (oi := { dst := some 64, op := Op.convert 23 9 (Operand.tmp 63), type := 9, pos := "law.go:90", after := #[{ on := 23, ground := Ground.data }, { on := 14, ground := Ground.guard }], guard := some (14, false) }) (v := ?_) rfl (by kernel_rfl) (by kernel_rfl) (by kernel_rfl) (Or.inl ⟨by rfl, ?_, by rfl⟩) ?_
    rotate_left 1
    · (go_simp <;> with_reducible rfl)
    (try simp only [Act.put, List.setIfInBounds_toArray, List.set_cons_zero, List.set_cons_succ])
    refine det_take (i := 25) (oi := { dst := some 65, op := Op.binOp BinOp.neq 9 (Operand.tmp 62) (Operand.tmp 64) 9, type := 4, pos := "law.go:90", after := #[{ on := 22, ground := Ground.data }, { on := 24, ground := Ground.data }, { on := 14, ground := Ground.guard }], guard := some (14, false) }) (v := ?_) rfl (by kernel_rfl) (by kernel_rfl) (by kernel_rfl) (Or.inl ⟨by rfl, ?_, by rfl⟩) ?_
    rotate_left 1
    · (go_simp <;> with_reducible rfl)
    (try simp only [Act.put, List.setIfInBounds_toArray, List.set_cons_zero, List.set_cons_succ])
    refine det_take (i := 26) (oi := { dst := some 66, op := Op.pick (Operand.tmp 54) (Operand.const (Value.bool true)) (Operand.tmp 65), type := 4, pos := "law.go:90", after := #[{ on := 14, ground := Ground.data }, { on := 25, ground := Ground.data }], guard := none }) (v := ?_) rfl (by kernel_rfl) (by kernel_rfl) (by kernel_rfl) (Or.inl ⟨by rfl, ?_, by rfl⟩) ?_
    rotate_left 1
    · (go_simp <;> with_reducible rfl)
    (try simp only [Act.put, List.setIfInBounds_toArray, List.set_cons_zero, List.set_cons_succ])
    refine det_done (by kernel_rfl) ?_
    have HRD : Hid (ROwnB w7.drew.drew (.slice (some ⟨g, o, none⟩) X1.length c1) X1) := HR7.out
    have HWI := Lib.hid (fun W' (hr : ROwnB W' (.slice (some ⟨g, o, none⟩) X1.length c1) X1) => HWA.out (.slice (some ⟨g, o, none⟩) X1.length c1) X1 i W' (Reads.of_owns hr) (by omega) hil)
    obtain ⟨w8, hw8⟩ : ∃ w8, w8 = w7.drew := ⟨_, rfl⟩
    have HX10 : Hid (Blk w8.drew p10 #[.slice (some ⟨g2, 0, none⟩) n c2] 55) := by rw [hw8]; exact HBX7.out.b10
    have HX6 : Hid (Blk w8.drew (w.heap.size + 1) #[.int .i64 (p : Int)] 3) := by rw [hw8]; exact HBX7.out.b6
    have HH18 : Hid (w8.drew.ownsRow w.heap.size 92 1 (.slice (some ⟨g2, 0, none⟩) n c2) n (vs.set p (.slice (some ⟨g, o, none⟩) X1.length c1))) := by rw [hw8]; exact HH17.out
    have HBX8 : Hid (Bx w8.drew w.heap.size (w.heap.size + 1) (w.heap.size + 1 + 1) (w.heap.size + 1 + 1 + 1) (w.heap.size + 1 + 1 + 1 + 1) p10 #[.int .i64 mrc, .int .i64 mdl, .int .i64 mro, .int .i64 mj, .int .i64 mlv, .slice aA an ac, .slice (some ⟨g2, 0, none⟩) n c2, .slice fA F.length fc, .int .i64 mu, .int .i64 ms.sent, .int .i64 ms.lost, .int .i64 ms.dropped, .int .i64 ms.doubled, .int .i64 ms.late, .int .i64 ms.turned] #[.int .i64 (p : Int)] #[.int .i64 now] #[.int .i64 0, .int .i64 0, .int .i64 0, .int .i64 0, .int .i64 0, .slice none 0 0, .slice none 0 0, .slice none 0 0, .int .i64 0, .int .i64 0, .int .i64 0, .int .i64 0, .int .i64 0, .int .i64 0, .int .i64 0] #[.bool false] #[.slice (some ⟨g2, 0, none⟩) n c2]) := by rw [hw8]; exact HBX7.out.keepC (Keep.refl (fun _ => False) w7).drew.drew.toC (fun _ _ h => h)
    have HNH8 : Hid (NetHole w8.drew col p nb gd delay room pv P fvN FN usedN' sN) := by rw [hw8]; exact HNH7.out.keep (Keep.refl (fun _ => False) w7).drew.drew (fun _ _ _ h => h)
    have HKW8 : Hid (Keep (fun q => col q = 6 + p) w w8.drew) := by rw [hw8]; exact HKW7.out.drew.drew
    have HKO8 : Hid (KeepsOthers W w8.drew) := by rw [hw8]; exact ⟨HB7.out.size, fun k o hk _ => (HB7.out.block k (Array.getElem?_eq_some_iff.1 hk).1).trans hk⟩
    have HKC8 : Hid (KeepC (fun q => q = g2 ∨ w6.heap.size ≤ q) W w8.drew) := by rw [hw8]; exact (KeepC.refl _ W).below (below_drewN HB7.out 2)
    rw [← hw8] at HRD ⊢
    clear hw8 y0 y1 x10 x6 x7 x2 hcv HBX7 HR7 HH17 HY7 HNH7 HKW7 HB7 HYO d1 d2
    gi_wp2
    refine wpIn_region_heldR (S := fun W' => Keep (fun _ => False) w8.drew W') 9 (by kernel_rfl) (by kernel_rfl) (Keep.refl _ _) (fun hHeld => ?_)
    refine heldT_takeC [] (i := 0) (oi := { dst := some 68, op := Op.load 55 (Operand.tmp 10), type := 55, pos := "law.go:93", after := #[], guard := none }) (v := ?_) rfl (by kernel_rfl) (by kernel_rfl) (by kernel_rfl) (by kernel_rfl) (fun _ _ _ h => h) (Or.inl ⟨by rfl, ?_⟩) hHeld ?_
    rotate_left 1
    · intro wS hSw; have q := (HX10.out.keep hSw (fun h => h)).cell 0 rfl; clear hSw; go_simp <;> with_reducible rfl
    (try simp only [Act.put, List.setIfInBounds_toArray, List.set_cons_zero, List.set_cons_succ])
    refine heldT_takeC [] (i := 1) (oi := { dst := some 69, op := Op.load 3 (Operand.tmp 6), type := 3, pos := "law.go:93", after := #[], guard := none }) (v := ?_) rfl (by kernel_rfl) (by kernel_rfl) (by kernel_rfl) (by kernel_rfl) (fun _ _ _ h => h) (Or.inl ⟨by rfl, ?_⟩) hHeld ?_
    rotate_left 1
    · intro wS hSw; have q := (HX6.out.keep hSw (fun h => h)).cell 0 rfl; clear hSw; go_simp <;> with_reducible rfl
    (try simp only [Act.put, List.setIfInBounds_toArray, List.set_cons_zero, List.set_cons_succ])
    refine heldT_takeC [] (i := 2) (oi := { dst := some 70, op := Op.load 55 (Operand.tmp 10), type := 55, pos := "law.go:93", after := #[], guard := none }) (v := ?_) rfl (by kernel_rfl) (by kernel_rfl) (by kernel_rfl) (by kernel_rfl) (fun _ _ _ h => h) (Or.inl ⟨by rfl, ?_⟩) hHeld ?_
    rotate_left 1
    · intro wS hSw; have q := (HX10.out.keep hSw (fun h => h)).cell 0 rfl; clear hSw; go_simp <;> with_reducible rfl
    (try simp only [Act.put, List.setIfInBounds_toArray, List.set_cons_zero, List.set_cons_succ])
    refine heldT_takeC [] (i := 3) (oi := { dst := some 71, op := Op.load 3 (Operand.tmp 6), type := 3, pos := "law.go:93", after := #[], guard := none }) (v := ?_) rfl (by kernel_rfl) (by kernel_rfl) (by kernel_rfl) (by kernel_rfl) (fun _ _ _ h => h) (Or.inl ⟨by rfl, ?_⟩) hHeld ?_
    rotate_left 1
    · intro wS hSw; have q := (HX6.out.keep hSw (fun h => h)).cell 0 rfl; clear hSw; go_simp <;> with_reducible rfl
    (try simp only [Act.put, List.setIfInBounds_toArray, List.set_cons_zero, List.set_cons_succ])
    refine heldT_free (i := 4) (oi := { dst := some 72, op := Op.indexAddr 55 (Operand.tmp 70) (Operand.tmp 71), type := 0, pos := "law.go:93", after := #[{ on := 2, ground := Ground.data }, { on := 3, ground := Ground.data }], guard := none }) (v := ?_) rfl (by kernel_rfl) (by kernel_rfl) (by kernel_rfl) (by kernel_rfl) (fun _ _ _ h => h) (Or.inl ⟨by rfl, ?_⟩) hHeld ?_
    rotate_left 1
    · intro wS; go_simp <;> with_reducible rfl
    (try simp only [Act.put, List.setIfInBounds_toArray, List.set_cons_zero, List.set_cons_succ])
    refine heldT_takeC [] (i := 5) (oi := { dst := some 73, op := Op.load 92 (Operand.tmp 72), type := 92, pos := "law.go:93", after := #[{ on := 4, ground := Ground.data }], guard := none }) (v := ?_) rfl (by kernel_rfl) (by kernel_rfl) (by kernel_rfl) (by kernel_rfl) (fun _ _ _ h => h) (Or.inl ⟨by rfl, ?_⟩) hHeld ?_
    rotate_left 1
    · intro wS hSw; have q := ownsRow_cell (ownsRow_keep HH18.out hSw (fun _ _ h => h)) (j := p) (u := (.slice (some ⟨g, o, none⟩) X1.length c1)) (List.getElem?_set_self HPV.out); clear hSw; go_simp <;> with_reducible rfl
    (try simp only [Act.put, List.setIfInBounds_toArray, List.set_cons_zero, List.set_cons_succ])
    refine heldT_free (i := 6) (oi := { dst := some 74, op := Op.move (Operand.tmp 13), type := 3, pos := "law.go:93", after := #[], guard := none }) (v := ?_) rfl (by kernel_rfl) (by kernel_rfl) (by kernel_rfl) (by kernel_rfl) (fun _ _ _ h => h) (Or.inl ⟨by rfl, ?_⟩) hHeld ?_
    rotate_left 1
    · intro wS; go_simp <;> with_reducible rfl
    (try simp only [Act.put, List.setIfInBounds_toArray, List.set_cons_zero, List.set_cons_succ])
    refine heldT_one (j := 7) (by kernel_rfl) (by kernel_rfl) rfl (fun K hK => ?_)
    go_simp
    go_wp2_with ((go_at_call 52; refine ((HWI.out _ HRD.out).mono ?_); rintro e w9 ⟨A9, c9, rfl, ho9, hb9⟩; have HO9 := Lib.hid ho9; have HB9 := Lib.hid hb9; have HN9 : Hid (Keep (fun _ => False) w8.drew w9) := Lib.hid (Keep.ofBelowAll hb9); clear ho9 hb9))
    refine hK.out _ _ HN9.out (fun hHeld => ?_)
    clear hK K
    (try simp only [Act.put, List.setIfInBounds_toArray, List.set_cons_zero, List.set_cons_succ])
    refine heldT_free (i := 8) (oi := { dst := some 76, op := Op.indexAddr 55 (Operand.tmp 68) (Operand.tmp 69), type := 0, pos := "law.go:93", after := #[{ on := 0, ground := Ground.data }, { on := 1, ground := Ground.data }, { on := 0, ground := Ground.phase }, { on := 1, ground := Ground.phase }, { on := 2, ground := Ground.phase }, { on := 3, ground := Ground.phase }, { on := 4, ground := Ground.phase }, { on := 5, ground := Ground.phase }, { on := 6, ground := Ground.phase }, { on := 7, ground := Ground.phase }], guard := none }) (v := ?_) rfl (by kernel_rfl) (by kernel_rfl) (by kernel_rfl) (by kernel_rfl) (fun _ _ _ h => h) (Or.inl ⟨by rfl, ?_⟩) hHeld ?_
    rotate_left 1
    · intro wS; go_simp <;> with_reducible rfl
    (try simp only [Act.put, List.setIfInBounds_toArray, List.set_cons_zero, List.set_cons_succ])
    refine heldT_tail (by kernel_rfl) rfl rfl (by kernel_rfl) ?_
    (try simp only [List.drop_succ_cons, List.drop_zero])
    have hord := HORD.out
    have hg2l : g2 < w8.drew.heap.size := (HH18.out.lt g2 rfl).2
    have HRW9 := Lib.hid (ownsRow_keep HH18.out HN9.out (fun _ _ h => h))
    have x29 : w9.cell? ⟨g2, p, none⟩ = some (.slice (some ⟨g, o, none⟩) X1.length c1) := ownsRow_cell HRW9.out (j := p) (List.getElem?_set_self HPV.out)
    have f29 : w9.frozen? ⟨g2, p, none⟩ = false := ownsRow_frozen HRW9.out p
    have HKS : Hid (Keep (fun q => q = g2) w9 (w9.setCell ⟨g2, p, none⟩ (.slice A9 (X1.eraseIdx i).length c9))) := (Keep.refl (fun q => q = g2) w9).setCell (p := ⟨g2, p, none⟩) (.inl rfl) _
    have HC2 : Hid (col g2 = 0) := by
      rcases Nat.eq_zero_or_pos (col g2) with e | e
      · exact e
      · exact absurd (HFAR.out g2 (by omega)) (by omega)
    have HTI9 : Hid (TI w col g2 n c2 p vs pd.l (pre.length + 1) (w9.setCell ⟨g2, p, none⟩ (.slice A9 (X1.eraseIdx i).length c9))) := by
      refine ⟨.slice A9 (X1.eraseIdx i).length c9, X1.eraseIdx i, ?_, ownsRow_base (ownsRow_keep HO9.out HKS.out (fun g' hg' e => by have := (HO9.out.lt g' hg').1; omega)) (Nat.zero_le _), HT.out, fun g' hg' => ?_⟩
      · have h := ownsRow_set HRW9.out (j := p) (by rw [List.length_set]; exact HPV.out) (.slice A9 (X1.eraseIdx i).length c9)
        rw [List.set_set] at h
        exact h
      · have h5 := (HO9.out.lt g' hg').1
        have h6 : w.heap.size ≤ g' := Nat.le_trans HKW8.out.size h5
        refine ⟨?_, by omega⟩
        rcases Nat.eq_zero_or_pos (col g') with e | e
        · exact e
        · exact absurd (HFAR.out g' (by omega)) (by omega)
    have HBX9 : Hid (Bx (w9.setCell ⟨g2, p, none⟩ (.slice A9 (X1.eraseIdx i).length c9)) w.heap.size (w.heap.size + 1) (w.heap.size + 1 + 1) (w.heap.size + 1 + 1 + 1) (w.heap.size + 1 + 1 + 1 + 1) p10 #[.int .i64 mrc, .int .i64 mdl, .int .i64 mro, .int .i64 mj, .int .i64 mlv, .slice aA an ac, .slice (some ⟨g2, 0, none⟩) n c2, .slice fA F.length fc, .int .i64 mu, .int .i64 ms.sent, .int .i64 ms.lost, .int .i64 ms.dropped, .int .i64 ms.doubled, .int .i64 ms.late, .int .i64 ms.turned] #[.int .i64 (p : Int)] #[.int .i64 now] #[.int .i64 0, .int .i64 0, .int .i64 0, .int .i64 0, .int .i64 0, .slice none 0 0, .slice none 0 0, .slice none 0 0, .int .i64 0, .int .i64 0, .int .i64 0, .int .i64 0, .int .i64 0, .int .i64 0, .int .i64 0] #[.bool false] #[.slice (some ⟨g2, 0, none⟩) n c2]) := (HBX8.out.keepC HN9.out.toC (fun _ _ h => h)).keepC HKS.out.toC (fun q hq e => by omega)
    have HNH9 : Hid (NetHole (w9.setCell ⟨g2, p, none⟩ (.slice A9 (X1.eraseIdx i).length c9)) col p nb gd delay room pv P fvN FN usedN' sN) := (HNH8.out.keep HN9.out (fun _ _ _ h => h)).keep HKS.out (fun x hx _ e => by rw [e] at hx; exact hx HC2.out)
    have HKW9 : Hid (Keep (fun q => col q = 6 + p) w (w9.setCell ⟨g2, p, none⟩ (.slice A9 (X1.eraseIdx i).length c9))) := (HKW8.out.trans HN9.out (fun _ _ h => h.elim)).trans HKS.out (fun q hq e => by omega)
    have HKO9 : Hid (KeepsOthers W (w9.setCell ⟨g2, p, none⟩ (.slice A9 (X1.eraseIdx i).length c9))) := (keepsOthers_below HKO8.out HB9.out).trans (KeepsOthers.setCell _ _ _)
    have HKC9 : Hid (KeepC (fun q => q = g2 ∨ w6.heap.size ≤ q) W (w9.setCell ⟨g2, p, none⟩ (.slice A9 (X1.eraseIdx i).length c9))) := (HKC8.out.below HB9.out).setCell (p := ⟨g2, p, none⟩) (.inl rfl) _
    clear hord hg2l HBX8 HNH8 HKW8 HKO8 HKC8 HRW9 HKS HRD HX10 HX6 HH18
    go_wp2_with fail
    refine OnlyN.normal ?_
    gi_wp2
    exact ⟨HKO9.out, HKC9.out, HBX9.out, by rw [List.length_append]; exact HTI9.out, HNH9.out, HKW9.out⟩
  case done =>
    rintro D xs W hD ⟨hT, hxs⟩ hi hK
    have hord := HORD.out
    obtain ⟨v2, X2, h1, h2, h3, h4⟩ := hi.2.1.ex
    obtain ⟨A2, k2, rfl⟩ := ownsRow_slice h2
    have hX2l : X2.length ≤ 10000 := by
      have h5 := sorted_len X2
      rw [← h3, List.length_map, List.length_drop] at h5
      have h6 := HPL.out
      omega
    have HPV : Hid (p < vs.length) := by have := HNN.out; show _ < _; omega
    have HC2 : Hid (col g2 = 0) := by
      rcases Nat.eq_zero_or_pos (col g2) with e | e
      · exact e
      · exact absurd (HFAR.out g2 (by omega)) (by omega)
    have HH1 := Lib.hid h1
    have HH2 := Lib.hid h2
    have HH3 := Lib.hid h3
    have HH3D : Hid ((pd.l.drop (dueN pd.l now)).map toR = sorted X2) := by rw [← hxs]; exact h3
    have HH4 := Lib.hid h4
    have HBX := Lib.hid hi.1
    have HTIW : Hid (TI w col g2 n c2 p vs pd.l (dueN pd.l now) W) := by rw [← hxs]; exact hi.2.1
    have HNH := Lib.hid hi.2.2.1
    have HKW := Lib.hid hi.2.2.2
    have HPT : Hid (PTook (fun x => col x = 5) (fun x => col x = 6 + p) pd.b pd.v.ownBlock pd.l room (dueN pd.l now) W) := by rw [← hxs]; exact hT
    have HE : Hid (∀ m, pd.l[xs.length]? = some m → now < m.due) := fun m hm => dueN_at (by rw [← hxs]; exact hm)
    have HKD := Lib.hid hK
    have HDD : Hid (w6.heap.size ≤ D ∧ D < W.heap.size) := ⟨hD, (Array.getElem?_eq_some_iff.1 hK).1⟩
    have HF2 := Lib.hid (HFA.out (.slice A2 X2.length k2) X2 W (Reads.of_owns h2) (by omega))
    have x10 : W.cell? ⟨p10, 0, none⟩ = some (.slice (some ⟨g2, 0, none⟩) n c2) := hi.1.b10.cell 0 rfl
    have x6 : W.cell? ⟨w.heap.size + 1, 0, none⟩ = some (.int .i64 (p : Int)) := hi.1.b6.cell 0 rfl
    have x2 : W.cell? ⟨g2, p, none⟩ = some (.slice A2 X2.length k2) := ownsRow_cell h1 (j := p) (List.getElem?_set_self HPV.out)
    clear hT hxs hi hK h1 h2 h3 h4 hD
    go_wp2_with fail
    refine HF2.out.mono ?_
    rintro e W9 ⟨rfl, hb9⟩
    have HY := Lib.hid (HBX.out.keepC (Keep.none hb9).drew.toC (fun _ _ h => h) : Bx W9.drew w.heap.size (w.heap.size + 1) (w.heap.size + 1 + 1) (w.heap.size + 1 + 1 + 1) (w.heap.size + 1 + 1 + 1 + 1) p10 #[.int .i64 mrc, .int .i64 mdl, .int .i64 mro, .int .i64 mj, .int .i64 mlv, .slice aA an ac, .slice (some ⟨g2, 0, none⟩) n c2, .slice fA F.length fc, .int .i64 mu, .int .i64 ms.sent, .int .i64 ms.lost, .int .i64 ms.dropped, .int .i64 ms.doubled, .int .i64 ms.late, .int .i64 ms.turned] #[.int .i64 (p : Int)] #[.int .i64 now] #[.int .i64 0, .int .i64 0, .int .i64 0, .int .i64 0, .int .i64 0, .slice none 0 0, .slice none 0 0, .slice none 0 0, .int .i64 0, .int .i64 0, .int .i64 0, .int .i64 0, .int .i64 0, .int .i64 0, .int .i64 0] #[.bool false] #[.slice (some ⟨g2, 0, none⟩) n c2])
    have HY4 := Lib.hid HY.out.b4
    have HY6 := Lib.hid HY.out.b6
    have HY7 := Lib.hid HY.out.b7
    have HY8 : Hid (Blk W9.drew (w.heap.size + 1 + 1 + 1) (modC md0) 59) := HY.out.b8
    have HY9 := Lib.hid HY.out.b9
    have HY10 := Lib.hid HY.out.b10
    have HYX : Hid (ROwnB W9.drew (.slice A2 X2.length k2) X2) := ownsRow_keep HH2.out (Keep.none hb9).drew (fun _ _ h => h)
    have HYR : Hid (W9.drew.ownsRow w.heap.size 92 1 (.slice (some ⟨g2, 0, none⟩) n c2) n (vs.set p (.slice A2 X2.length k2))) := ownsRow_keep HH1.out (Keep.none hb9).drew (fun _ _ h => h)
    replace HPT : Hid (PTook (fun x => col x = 5) (fun x => col x = 6 + p) pd.b pd.v.ownBlock pd.l room (dueN pd.l now) W9.drew) := HPT.out.keep (Keep.none hb9).drew (fun _ _ h => h)
    replace HKD : Hid (W9.drew.heap[D]? = some (.deferred (some []))) := (hb9.block D HDD.out.2).trans HKD.out
    replace HDD : Hid (w6.heap.size ≤ D ∧ D < W9.drew.heap.size) := ⟨HDD.out.1, Nat.lt_of_lt_of_le HDD.out.2 hb9.size⟩
    have HFR8 : Hid (∀ g', (Value.slice A2 X2.length k2).ownBlock = some g' → g' ≠ (w.heap.size + 1 + 1 + 1) ∧ g' ≠ (w.heap.size + 1 + 1 + 1 + 1)) := fun g' hg' => ⟨ne_blk HYX.out hg' HY8.out (by decide), ne_blk HYX.out hg' HY9.out (by decide)⟩
    have HTE : Hid (∀ B, KeepC (fun q => q = (w.heap.size + 1 + 1 + 1) ∨ q = (w.heap.size + 1 + 1 + 1 + 1)) W9.drew B → TI w col g2 n c2 p vs pd.l (dueN pd.l now) B) := fun B hB => ⟨_, X2, hB.row HYR.out (fun g' hg' e => by have h9 : g2 = g' := Option.some.inj hg'; omega), hB.row HYX.out (fun g' hg' e => e.elim (HFR8.out g' hg').1 (HFR8.out g' hg').2), HH3D.out, HH4.out⟩
    have HNE : Hid (∀ B, KeepC (fun q => q = (w.heap.size + 1 + 1 + 1) ∨ q = (w.heap.size + 1 + 1 + 1 + 1)) W9.drew B → NetHole B col p nb gd delay room pv P fvN FN usedN' sN) := fun B hB => (HNH.out.keep (Keep.none hb9).drew (fun _ _ _ h => h)).keepC hB (fun x hx _ e => by have h5 := HFAR.out x hx; omega)
    have HKE : Hid (Keep (fun q => col q = 6 + p) w W9.drew) := HKW.out.trans (Keep.none hb9).drew (fun _ _ h => h.elim)
    have HONE : Hid (modOne (⟨mrc, mdl, mro, mj, mlv, .slice aA an ac, .slice (some ⟨g2, 0, none⟩) n c2, .slice fA F.length fc, mu, ms⟩ : MD)) := ⟨rfl, rfl, rfl⟩
    clear HF2 x10 x6 x2 HBX HH1 HH2 HTIW HNH HKW hb9 HY
    cases hdl : pd.l.drop xs.length with
    | nil =>
      have hx0 : X2 = [] := sorted_nil (by have h := HH3.out; rw [hdl] at h; exact h.symm)
      have hfi : fi X2 X2.length = -1 := by rw [hx0]; rfl
      rw [hfi]
      clear hdl hfi hx0
      go_wp2_with fail
      refine wp_region_heldT (S := (fun W' => Keep (fun q => q = (w.heap.size + 1 + 1 + 1)) W9.drew W')) 16 (by kernel_rfl) (Keep.refl _ _) (fun hHeld => ?_)
      refine heldT_takeC [] (i := 0) (oi := { dst := some 82, op := Op.load 59 (Operand.tmp 4), type := 59, pos := "law.go:96", after := #[], guard := none }) (v := ?_) rfl (by kernel_rfl) (by kernel_rfl) (by kernel_rfl) (by kernel_rfl) (fun _ _ _ h => h) (Or.inl ⟨by rfl, ?_⟩) hHeld ?_
      rotate_left 1
      · intro wS hSw; (refine exec_loadM (Operand.tmp 4) ?_ w.heap.size ?_ (⟨mrc, mdl, mro, mj, mlv, .slice aA an ac, .slice (some ⟨g2, 0, none⟩) n c2, .slice fA F.length fc, mu, ms⟩ : MD) (HY4.out.keep hSw (by omega)) <;> rfl)
      (try simp only [Act.put, List.setIfInBounds_toArray, List.set_cons_zero, List.set_cons_succ])
      refine heldT_free (i := 1) (oi := { dst := some 83, op := Op.move (Operand.tmp 14), type := 3, pos := "law.go:96", after := #[], guard := none }) (v := ?_) rfl (by kernel_rfl) (by kernel_rfl) (by kernel_rfl) (by kernel_rfl) (fun _ _ _ h => h) (Or.inl ⟨by rfl, ?_⟩) hHeld ?_
      rotate_left 1
      · intro wS; go_simp <;> with_reducible rfl
      (try simp only [Act.put, List.setIfInBounds_toArray, List.set_cons_zero, List.set_cons_succ])
      refine heldT_free (i := 2) (oi := { dst := some 84, op := Op.binOp BinOp.lss 3 (Operand.tmp 83) (Operand.const (Value.int IntKind.i64 0)) 3, type := 4, pos := "law.go:96", after := #[{ on := 1, ground := Ground.data }], guard := none }) (v := ?_) rfl (by kernel_rfl) (by kernel_rfl) (by kernel_rfl) (by kernel_rfl) (fun _ _ _ h => h) (Or.inl ⟨by rfl, ?_⟩) hHeld ?_
      rotate_left 1
      · intro wS; go_simp <;> with_reducible rfl
      (try simp only [Act.put, List.setIfInBounds_toArray, List.set_cons_zero, List.set_cons_succ])
      refine heldT_free (i := 3) (oi := { dst := some 85, op := Op.move (Operand.tmp 84), type := 4, pos := "law.go:96", after := #[{ on := 2, ground := Ground.data }], guard := none }) (v := ?_) rfl (by kernel_rfl) (by kernel_rfl) (by kernel_rfl) (by kernel_rfl) (fun _ _ _ h => h) (Or.inl ⟨by rfl, ?_⟩) hHeld ?_
      rotate_left 1
      · intro wS; go_simp <;> with_reducible rfl
      (try simp only [Act.put, List.setIfInBounds_toArray, List.set_cons_zero, List.set_cons_succ])
      refine heldT_free (i := 4) (oi := { dst := some 86, op := Op.load 55 (Operand.tmp 10), type := 55, pos := "law.go:96", after := #[{ on := 3, ground := Ground.guard }], guard := some (3, false) }) (v := undef) rfl (by kernel_rfl) (by kernel_rfl) (by kernel_rfl) (by kernel_rfl) (fun _ _ _ h => h) (Or.inr ⟨by rfl, rfl⟩) hHeld ?_
      (try simp only [Act.put, List.setIfInBounds_toArray, List.set_cons_zero, List.set_cons_succ])
      refine heldT_free (i := 5) (oi := { dst := some 87, op := Op.load 3 (Operand.tmp 6), type := 3, pos := "law.go:96", after := #[{ on := 3, ground := Ground.guard }], guard := some (3, false) }) (v := undef) rfl (by kernel_rfl) (by kernel_rfl) (by kernel_rfl) (by kernel_rfl) (fun _ _ _ h => h) (Or.inr ⟨by rfl, rfl⟩) hHeld ?_
      (try simp only [Act.put, List.setIfInBounds_toArray, List.set_cons_zero, List.set_cons_succ])
      refine heldT_free (i := 6) (oi := { dst := some 88, op := Op.indexAddr 55 (Operand.tmp 86) (Operand.tmp 87), type := 0, pos := "law.go:96", after := #[{ on := 4, ground := Ground.data }, { on := 5, ground := Ground.data }, { on := 3, ground := Ground.guard }], guard := some (3, false) }) (v := undef) rfl (by kernel_rfl) (by kernel_rfl) (by kernel_rfl) (by kernel_rfl) (fun _ _ _ h => h) (Or.inr ⟨by rfl, rfl⟩) hHeld ?_
      (try simp only [Act.put, List.setIfInBounds_toArray, List.set_cons_zero, List.set_cons_succ])
      refine heldT_free (i := 7) (oi := { dst := some 89, op := Op.load 92 (Operand.tmp 88), type := 92, pos := "law.go:96", after := #[{ on := 6, ground := Ground.data }, { on := 3, ground := Ground.guard }], guard := some (3, false) }) (v := undef) rfl (by kernel_rfl) (by kernel_rfl) (by kernel_rfl) (by kernel_rfl) (fun _ _ _ h => h) (Or.inr ⟨by rfl, rfl⟩) hHeld ?_
      (try simp only [Act.put, List.setIfInBounds_toArray, List.set_cons_zero, List.set_cons_succ])
      refine heldT_free (i := 8) (oi := { dst := some 90, op := Op.move (Operand.tmp 14), type := 3, pos := "law.go:96", after := #[{ on := 3, ground := Ground.guard }], guard := some (3, false) }) (v := undef) rfl (by kernel_rfl) (by kernel_rfl) (by kernel_rfl) (by kernel_rfl) (fun _ _ _ h => h) (Or.inr ⟨by rfl, rfl⟩) hHeld ?_
      (try simp only [Act.put, List.setIfInBounds_toArray, List.set_cons_zero, List.set_cons_succ])
      refine heldT_free (i := 9) (oi := { dst := some 91, op := Op.indexAddr 92 (Operand.tmp 89) (Operand.tmp 90), type := 0, pos := "law.go:96", after := #[{ on := 7, ground := Ground.data }, { on := 8, ground := Ground.data }, { on := 3, ground := Ground.guard }], guard := some (3, false) }) (v := undef) rfl (by kernel_rfl) (by kernel_rfl) (by kernel_rfl) (by kernel_rfl) (fun _ _ _ h => h) (Or.inr ⟨by rfl, rfl⟩) hHeld ?_
      (try simp only [Act.put, List.setIfInBounds_toArray, List.set_cons_zero, List.set_cons_succ])
      refine heldT_free (i := 10) (oi := { dst := some 92, op := Op.fieldAddr 110 (Operand.tmp 91) 0, type := 0, pos := "law.go:96", after := #[{ on := 9, ground := Ground.data }, { on := 3, ground := Ground.guard }], guard := some (3, false) }) (v := undef) rfl (by kernel_rfl) (by kernel_rfl) (by kernel_rfl) (by kernel_rfl) (fun _ _ _ h => h) (Or.inr ⟨by rfl, rfl⟩) hHeld ?_
      (try simp only [Act.put, List.setIfInBounds_toArray, List.set_cons_zero, List.set_cons_succ])
      refine heldT_free (i := 11) (oi := { dst := some 93, op := Op.load 3 (Operand.tmp 92), type := 3, pos := "law.go:96", after := #[{ on := 10, ground := Ground.data }, { on := 3, ground := Ground.guard }], guard := some (3, false) }) (v := undef) rfl (by kernel_rfl) (by kernel_rfl) (by kernel_rfl) (by kernel_rfl) (fun _ _ _ h => h) (Or.inr ⟨by rfl, rfl⟩) hHeld ?_
      (try simp only [Act.put, List.setIfInBounds_toArray, List.set_cons_zero, List.set_cons_succ])
      refine heldT_free (i := 12) (oi := { dst := some 94, op := Op.load 3 (Operand.tmp 7), type := 3, pos := "law.go:96", after := #[{ on := 3, ground := Ground.guard }], guard := some (3, false) }) (v := undef) rfl (by kernel_rfl) (by kernel_rfl) (by kernel_rfl) (by kernel_rfl) (fun _ _ _ h => h) (Or.inr ⟨by rfl, rfl⟩) hHeld ?_
      (try simp only [Act.put, List.setIfInBounds_toArray, List.set_cons_zero, List.set_cons_succ])
      refine heldT_free (i := 13) (oi := { dst := some 95, op := Op.binOp BinOp.gtr 3 (Operand.tmp 93) (Operand.tmp 94) 3, type := 4, pos := "law.go:96", after := #[{ on := 11, ground := Ground.data }, { on := 12, ground := Ground.data }, { on := 3, ground := Ground.guard }], guard := some (3, false) }) (v := undef) rfl (by kernel_rfl) (by kernel_rfl) (by kernel_rfl) (by kernel_rfl) (fun _ _ _ h => h) (Or.inr ⟨by rfl, rfl⟩) hHeld ?_
      (try simp only [Act.put, List.setIfInBounds_toArray, List.set_cons_zero, List.set_cons_succ])
      refine heldT_free (i := 14) (oi := { dst := some 96, op := Op.pick (Operand.tmp 85) (Operand.const (Value.bool true)) (Operand.tmp 95), type := 4, pos := "law.go:96", after := #[{ on := 3, ground := Ground.data }, { on := 13, ground := Ground.data }], guard := none }) (v := ?_) rfl (by kernel_rfl) (by kernel_rfl) (by kernel_rfl) (by kernel_rfl) (fun _ _ _ h => h) (Or.inl ⟨by rfl, ?_⟩) hHeld ?_
      rotate_left 1
      · intro wS; go_simp <;> with_reducible rfl
      (try simp only [Act.put, List.setIfInBounds_toArray, List.set_cons_zero, List.set_cons_succ])
      refine heldT_one (j := 15) (by kernel_rfl) (by kernel_rfl) rfl (fun K hK => ?_)
      refine step_storeM rfl (Operand.tmp 8) (Operand.tmp 82) ?_ (w.heap.size + 1 + 1 + 1) ?_ (⟨mrc, mdl, mro, mj, mlv, .slice aA an ac, .slice (some ⟨g2, 0, none⟩) n c2, .slice fA F.length fc, mu, ms⟩ : MD) md0 HONE.out ?_ HY8.out (fun w10 hb10 hk10 => ?_)
      · rfl
      · rfl
      · rfl
      refine hK.out _ _ (hk10.out.mono (fun q _ e => e)) (fun hHeld => ?_)
      clear hK K
      (try simp only [Act.put, List.setIfInBounds_toArray, List.set_cons_zero, List.set_cons_succ])
      refine heldT_tail (by kernel_rfl) rfl rfl (by kernel_rfl) ?_
      (try simp only [List.drop_succ_cons, List.drop_zero])
      have hord := HORD.out
      have HB90 : Hid (Blk w10 (w.heap.size + 1 + 1 + 1 + 1) #[.bool false] 4) := HY9.out.keep hk10.out (by omega)
      have c9 := HB90.out.cell 0 rfl
      have f9 := HB90.out.frozen 0
      go_wp2_with fail
      refine NoPanic.normal ?_
      go_wp2
      have hk11 : Keep (fun q => q = (w.heap.size + 1 + 1 + 1) ∨ q = (w.heap.size + 1 + 1 + 1 + 1)) W9.drew (w10.setCell ⟨(w.heap.size + 1 + 1 + 1 + 1), 0, none⟩ (.bool true)) := (hk10.out.mono (fun q _ e => .inl e)).setCell (p := ⟨(w.heap.size + 1 + 1 + 1 + 1), 0, none⟩) (.inl (.inr rfl)) _
      have HDF : Hid ((w10.setCell ⟨(w.heap.size + 1 + 1 + 1 + 1), 0, none⟩ (.bool true)).heap[D]? = some (.deferred (some []))) := (hk11.block D HDD.out.2 (fun e => by have := HDD.out; omega)).trans HKD.out
      have HR8 : Hid (Blk ((w10.setCell ⟨(w.heap.size + 1 + 1 + 1 + 1), 0, none⟩ (.bool true)).putObj D (.deferred none)) (w.heap.size + 1 + 1 + 1) #[.int .i64 mrc, .int .i64 mdl, .int .i64 mro, .int .i64 mj, .int .i64 mlv, .slice aA an ac, .slice (some ⟨g2, 0, none⟩) n c2, .slice fA F.length fc, .int .i64 mu, .int .i64 ms.sent, .int .i64 ms.lost, .int .i64 ms.dropped, .int .i64 ms.doubled, .int .i64 ms.late, .int .i64 ms.turned] 59) := blk_turn (hb10.out.setOther (p := ⟨(w.heap.size + 1 + 1 + 1 + 1), 0, none⟩) (by show (w.heap.size + 1 + 1 + 1) ≠ (w.heap.size + 1 + 1 + 1 + 1); omega) _) HDF.out rfl
      have HR9 : Hid (Blk ((w10.setCell ⟨(w.heap.size + 1 + 1 + 1 + 1), 0, none⟩ (.bool true)).putObj D (.deferred none)) (w.heap.size + 1 + 1 + 1 + 1) #[.bool true] 4) := blk_turn (HB90.out.set' rfl) HDF.out rfl
      refine ⟨by simp, .inl ⟨_, _, rfl, run_takeDeferred HDF.out, ?_⟩⟩
      obtain ⟨e0, e1, e2, e3, e4, e5, e6, e7, e8, e9, e10, e11, e12, e13, e14⟩ := blk15 HR8.out
      have e15 := HR9.out.cell 0 rfl
      refine ⟨.tuple #[.agg #[.int .i64 mrc, .int .i64 mdl, .int .i64 mro, .int .i64 mj, .int .i64 mlv, .slice aA an ac, .slice (some ⟨g2, 0, none⟩) n c2, .slice fA F.length fc, .int .i64 mu, .int .i64 ms.sent, .int .i64 ms.lost, .int .i64 ms.dropped, .int .i64 ms.doubled, .int .i64 ms.late, .int .i64 ms.turned], .bool true], ?_, ⟨mrc, mdl, mro, mj, mlv, .slice aA an ac, .slice (some ⟨g2, 0, none⟩) n c2, .slice fA F.length fc, mu, ms⟩, rfl, ?_⟩
      · simp [results, Try.f37, go_sem, e0, e1, e2, e3, e4, e5, e6, e7, e8, e9, e10, e11, e12, e13, e14, e15]
      · obtain rfl := HAN.out
        obtain rfl := HNN.out
        refine tk_end HM.out rfl ?_ HC2.out ?_ HP.out ?_ ?_
        · exact HTE.out _ (hk11.toC.trans (keepC_turn HDF.out rfl _))
        · exact HNE.out _ (hk11.toC.trans (keepC_turn HDF.out rfl _))
        · obtain ⟨v7, hp7, -⟩ := (HPT.out.keep hk11 (fun q hq e => by have hq : col q = 6 + p ∨ col q = 5 := hq; have h1 := HFAR.out q (by omega); omega)).turn (o' := .deferred none) HDF.out rfl
          exact ⟨v7, hp7⟩
        · exact keep_turn (HKE.out.trans hk11 (fun q hq e => by omega)) (by have := HDD.out; omega)
    | cons m3 t3 =>
      have h4 := HH3.out
      rw [hdl] at h4
      obtain ⟨i3, hi3, hfi, hXi, -⟩ := head_first h4
      have hlm : pd.l[xs.length]? = some m3 := by
        have h := congrArg (fun z => z[0]?) hdl
        simpa [List.getElem?_drop] using h
      have hdu := HE.out m3 hlm
      have HXI := Lib.hid hXi
      obtain ⟨g3, o3, cc3, he3, y0, y1⟩ := RAt.at (v := .slice A2 X2.length k2) (Reads.of_owns HYX.out) hXi
      cases he3
      have d1 : decide ((i3 : Int) < 0) = false := decide_eq_false (by omega)
      have d2 : decide (now < m3.due) = true := decide_eq_true hdu
      have i1 : (0 : Int) ≤ (i3 : Int) := by omega
      have i2 : (i3 : Int) < (X2.length : Int) := by omega
      rw [hfi]
      clear hdl h4 hfi hXi hlm y0 y1
      go_wp2_with fail
      refine wp_region_heldT (S := (fun W' => Keep (fun q => q = (w.heap.size + 1 + 1 + 1)) W9.drew W')) 16 (by kernel_rfl) (Keep.refl _ _) (fun hHeld => ?_)
      refine heldT_takeC [] (i := 0) (oi := { dst := some 82, op := Op.load 59 (Operand.tmp 4), type := 59, pos := "law.go:96", after := #[], guard := none }) (v := ?_) rfl (by kernel_rfl) (by kernel_rfl) (by kernel_rfl) (by kernel_rfl) (fun _ _ _ h => h) (Or.inl ⟨by rfl, ?_⟩) hHeld ?_
      rotate_left 1
      · intro wS hSw; (refine exec_loadM (Operand.tmp 4) ?_ w.heap.size ?_ (⟨mrc, mdl, mro, mj, mlv, .slice aA an ac, .slice (some ⟨g2, 0, none⟩) n c2, .slice fA F.length fc, mu, ms⟩ : MD) (HY4.out.keep hSw (by omega)) <;> rfl)
      (try simp only [Act.put, List.setIfInBounds_toArray, List.set_cons_zero, List.set_cons_succ])
      refine heldT_free (i := 1) (oi := { dst := some 83, op := Op.move (Operand.tmp 14), type := 3, pos := "law.go:96", after := #[], guard := none }) (v := ?_) rfl (by kernel_rfl) (by kernel_rfl) (by kernel_rfl) (by kernel_rfl) (fun _ _ _ h => h) (Or.inl ⟨by rfl, ?_⟩) hHeld ?_
      rotate_left 1
      · intro wS; go_simp <;> with_reducible rfl
      (try simp only [Act.put, List.setIfInBounds_toArray, List.set_cons_zero, List.set_cons_succ])
      refine heldT_free (i := 2) (oi := { dst := some 84, op := Op.binOp BinOp.lss 3 (Operand.tmp 83) (Operand.const (Value.int IntKind.i64 0)) 3, type := 4, pos := "law.go:96", after := #[{ on := 1, ground := Ground.data }], guard := none }) (v := ?_) rfl (by kernel_rfl) (by kernel_rfl) (by kernel_rfl) (by kernel_rfl) (fun _ _ _ h => h) (Or.inl ⟨by rfl, ?_⟩) hHeld ?_
      rotate_left 1
      · intro wS; go_simp <;> with_reducible rfl
      (try simp only [Act.put, List.setIfInBounds_toArray, List.set_cons_zero, List.set_cons_succ])
      refine heldT_free (i := 3) (oi := { dst := some 85, op := Op.move (Operand.tmp 84), type := 4, pos := "law.go:96", after := #[{ on := 2, ground := Ground.data }], guard := none }) (v := ?_) rfl (by kernel_rfl) (by kernel_rfl) (by kernel_rfl) (by kernel_rfl) (fun _ _ _ h => h) (Or.inl ⟨by rfl, ?_⟩) hHeld ?_
      rotate_left 1
      · intro wS; go_simp <;> with_reducible rfl
      (try simp only [Act.put, List.setIfInBounds_toArray, List.set_cons_zero, List.set_cons_succ])
      refine heldT_takeC [] (i := 4) (oi := { dst := some 86, op := Op.load 55 (Operand.tmp 10), type := 55, pos := "law.go:96", after := #[{ on := 3, ground := Ground.guard }], guard := some (3, false) }) (v := ?_) rfl (by kernel_rfl) (by kernel_rfl) (by kernel_rfl) (by kernel_rfl) (fun _ _ _ h => h) (Or.inl ⟨by rfl, ?_⟩) hHeld ?_
      rotate_left 1
      · intro wS hSw; have q := (HY10.out.keep hSw (by omega)).cell 0 rfl; clear hSw; go_simp <;> with_reducible rfl
      (try simp only [Act.put, List.setIfInBounds_toArray, List.set_cons_zero, List.set_cons_succ])
      refine heldT_takeC [] (i := 5) (oi := { dst := some 87, op := Op.load 3 (Operand.tmp 6), type := 3, pos := "law.go:96", after := #[{ on := 3, ground := Ground.guard }], guard := some (3, false) }) (v := ?_) rfl (by kernel_rfl) (by kernel_rfl) (by kernel_rfl) (by kernel_rfl) (fun _ _ _ h => h) (Or.inl ⟨by rfl, ?_⟩) hHeld ?_
      rotate_left 1
      · intro wS hSw; have q := (HY6.out.keep hSw (by omega)).cell 0 rfl; clear hSw; go_simp <;> with_reducible rfl
      (try simp only [Act.put, List.setIfInBounds_toArray, List.set_cons_zero, List.set_cons_succ])
      refine heldT_free (i := 6) (oi := { dst := some 88, op := Op.indexAddr 55 (Operand.tmp 86) (Operand.tmp 87), type := 0, pos := "law.go:96", after := #[{ on := 4, ground := Ground.data }, { on := 5, ground := Ground.data }, { on := 3, ground := Ground.guard }], guard := some (3, false) }) (v := ?_) rfl (by kernel_rfl) (by kernel_rfl) (by kernel_rfl) (by kernel_rfl) (fun _ _ _ h => h) (Or.inl ⟨by rfl, ?_⟩) hHeld ?_
      rotate_left 1
      · intro wS; go_simp <;> with_reducible rfl
      (try simp only [Act.put, List.setIfInBounds_toArray, List.set_cons_zero, List.set_cons_succ])
      refine heldT_takeC [] (i := 7) (oi := { dst := some 89, op := Op.load 92 (Operand.tmp 88), type := 92, pos := "law.go:96", after := #[{ on := 6, ground := Ground.data }, { on := 3, ground := Ground.guard }], guard := some (3, false) }) (v := ?_) rfl (by kernel_rfl) (by kernel_rfl) (by kernel_rfl) (by kernel_rfl) (fun _ _ _ h => h) (Or.inl ⟨by rfl, ?_⟩) hHeld ?_
      rotate_left 1
      · intro wS hSw; have q := ownsRow_cell (ownsRow_keep HYR.out hSw (fun g' hg' e => by have h9 : g2 = g' := Option.some.inj hg'; omega)) (j := p) (u := (.slice (some ⟨g3, o3, none⟩) X2.length k2)) (List.getElem?_set_self HPV.out); clear hSw; go_simp <;> with_reducible rfl
      (try simp only [Act.put, List.setIfInBounds_toArray, List.set_cons_zero, List.set_cons_succ])
      refine heldT_free (i := 8) (oi := { dst := some 90, op := Op.move (Operand.tmp 14), type := 3, pos := "law.go:96", after := #[{ on := 3, ground := Ground.guard }], guard := some (3, false) }) (v := ?_) rfl (by kernel_rfl) (by kernel_rfl) (by kernel_rfl) (by kernel_rfl) (fun _ _ _ h => h) (Or.inl ⟨by rfl, ?_⟩) hHeld ?_
      rotate_left 1
      · intro wS; go_simp <;> with_reducible rfl
      (try simp only [Act.put, List.setIfInBounds_toArray, List.set_cons_zero, List.set_cons_succ])
      refine heldT_free (i := 9) (oi := { dst := some 91, op := Op.indexAddr 92 (Operand.tmp 89) (Operand.tmp 90), type := 0, pos := "law.go:96", after := #[{ on := 7, ground := Ground.data }, { on := 8, ground := Ground.data }, { on := 3, ground := Ground.guard }], guard := some (3, false) }) (v := ?_) rfl (by kernel_rfl) (by kernel_rfl) (by kernel_rfl) (by kernel_rfl) (fun _ _ _ h => h) (Or.inl ⟨by rfl, ?_⟩) hHeld ?_
      rotate_left 1
      · intro wS; go_simp <;> with_reducible rfl
      (try simp only [Act.put, List.setIfInBounds_toArray, List.set_cons_zero, List.set_cons_succ])
      refine heldT_free (i := 10) (oi := { dst := some 92, op := Op.fieldAddr 110 (Operand.tmp 91) 0, type := 0, pos := "law.go:96", after := #[{ on := 9, ground := Ground.data }, { on := 3, ground := Ground.guard }], guard := some (3, false) }) (v := ?_) rfl (by kernel_rfl) (by kernel_rfl) (by kernel_rfl) (by kernel_rfl) (fun _ _ _ h => h) (Or.inl ⟨by rfl, ?_⟩) hHeld ?_
      rotate_left 1
      · intro wS; go_simp <;> with_reducible rfl
      (try simp only [Act.put, List.setIfInBounds_toArray, List.set_cons_zero, List.set_cons_succ])
      refine heldT_takeC [] (i := 11) (oi := { dst := some 93, op := Op.load 3 (Operand.tmp 92), type := 3, pos := "law.go:96", after := #[{ on := 10, ground := Ground.data }, { on := 3, ground := Ground.guard }], guard := some (3, false) }) (v := ?_) rfl (by kernel_rfl) (by kernel_rfl) (by kernel_rfl) (by kernel_rfl) (fun _ _ _ h => h) (Or.inl ⟨by rfl, ?_⟩) hHeld ?_
      rotate_left 1
      · intro wS hSw; have hr := ownsRow_keep HYX.out hSw (fun g' hg' e => (HFR8.out g' hg').1 e); obtain ⟨g5, o5, cc5, he5, q6, q7⟩ := RAt.at (v := (.slice (some ⟨g3, o3, none⟩) X2.length k2)) (Reads.of_owns hr) HXI.out; cases he5; replace q6 : wS.cell? ⟨g3, o3 + i3 * 2, none⟩ = some (.int .i64 m3.due) := q6; clear hr hSw; go_simp <;> with_reducible rfl
      (try simp only [Act.put, List.setIfInBounds_toArray, List.set_cons_zero, List.set_cons_succ])
      refine heldT_takeC [] (i := 12) (oi := { dst := some 94, op := Op.load 3 (Operand.tmp 7), type := 3, pos := "law.go:96", after := #[{ on := 3, ground := Ground.guard }], guard := some (3, false) }) (v := ?_) rfl (by kernel_rfl) (by kernel_rfl) (by kernel_rfl) (by kernel_rfl) (fun _ _ _ h => h) (Or.inl ⟨by rfl, ?_⟩) hHeld ?_
      rotate_left 1
      · intro wS hSw; have q := (HY7.out.keep hSw (by omega)).cell 0 rfl; clear hSw; go_simp <;> with_reducible rfl
      (try simp only [Act.put, List.setIfInBounds_toArray, List.set_cons_zero, List.set_cons_succ])
      refine heldT_free (i := 13) (oi := { dst := some 95, op := Op.binOp BinOp.gtr 3 (Operand.tmp 93) (Operand.tmp 94) 3, type := 4, pos := "law.go:96", after := #[{ on := 11, ground := Ground.data }, { on := 12, ground := Ground.data }, { on := 3, ground := Ground.guard }], guard := some (3, false) }) (v := ?_) rfl (by kernel_rfl) (by kernel_rfl) (by kernel_rfl) (by kernel_rfl) (fun _ _ _ h => h) (Or.inl ⟨by rfl, ?_⟩) hHeld ?_
      rotate_left 1
      · intro wS; go_simp <;> with_reducible rfl
      (try simp only [Act.put, List.setIfInBounds_toArray, List.set_cons_zero, List.set_cons_succ])
      refine heldT_free (i := 14) (oi := { dst := some 96, op := Op.pick (Operand.tmp 85) (Operand.const (Value.bool true)) (Operand.tmp 95), type := 4, pos := "law.go:96", after := #[{ on := 3, ground := Ground.data }, { on := 13, ground := Ground.data }], guard := none }) (v := ?_) rfl (by kernel_rfl) (by kernel_rfl) (by kernel_rfl) (by kernel_rfl) (fun _ _ _ h => h) (Or.inl ⟨by rfl, ?_⟩) hHeld ?_
      rotate_left 1
      · intro wS; go_simp <;> with_reducible rfl
      (try simp only [Act.put, List.setIfInBounds_toArray, List.set_cons_zero, List.set_cons_succ])
      refine heldT_one (j := 15) (by kernel_rfl) (by kernel_rfl) rfl (fun K hK => ?_)
      refine step_storeM rfl (Operand.tmp 8) (Operand.tmp 82) ?_ (w.heap.size + 1 + 1 + 1) ?_ (⟨mrc, mdl, mro, mj, mlv, .slice aA an ac, .slice (some ⟨g2, 0, none⟩) n c2, .slice fA F.length fc, mu, ms⟩ : MD) md0 HONE.out ?_ HY8.out (fun w10 hb10 hk10 => ?_)
      · rfl
      · rfl
      · rfl
      refine hK.out _ _ (hk10.out.mono (fun q _ e => e)) (fun hHeld => ?_)
      clear hK K
      (try simp only [Act.put, List.setIfInBounds_toArray, List.set_cons_zero, List.set_cons_succ])
      refine heldT_tail (by kernel_rfl) rfl rfl (by kernel_rfl) ?_
      (try simp only [List.drop_succ_cons, List.drop_zero])
      have hord := HORD.out
      have HB90 : Hid (Blk w10 (w.heap.size + 1 + 1 + 1 + 1) #[.bool false] 4) := HY9.out.keep hk10.out (by omega)
      have c9 := HB90.out.cell 0 rfl
      have f9 := HB90.out.frozen 0
      go_wp2_with fail
      refine NoPanic.normal ?_
      go_wp2
      have hk11 : Keep (fun q => q = (w.heap.size + 1 + 1 + 1) ∨ q = (w.heap.size + 1 + 1 + 1 + 1)) W9.drew (w10.setCell ⟨(w.heap.size + 1 + 1 + 1 + 1), 0, none⟩ (.bool true)) := (hk10.out.mono (fun q _ e => .inl e)).setCell (p := ⟨(w.heap.size + 1 + 1 + 1 + 1), 0, none⟩) (.inl (.inr rfl)) _
      have HDF : Hid ((w10.setCell ⟨(w.heap.size + 1 + 1 + 1 + 1), 0, none⟩ (.bool true)).heap[D]? = some (.deferred (some []))) := (hk11.block D HDD.out.2 (fun e => by have := HDD.out; omega)).trans HKD.out
      have HR8 : Hid (Blk ((w10.setCell ⟨(w.heap.size + 1 + 1 + 1 + 1), 0, none⟩ (.bool true)).putObj D (.deferred none)) (w.heap.size + 1 + 1 + 1) #[.int .i64 mrc, .int .i64 mdl, .int .i64 mro, .int .i64 mj, .int .i64 mlv, .slice aA an ac, .slice (some ⟨g2, 0, none⟩) n c2, .slice fA F.length fc, .int .i64 mu, .int .i64 ms.sent, .int .i64 ms.lost, .int .i64 ms.dropped, .int .i64 ms.doubled, .int .i64 ms.late, .int .i64 ms.turned] 59) := blk_turn (hb10.out.setOther (p := ⟨(w.heap.size + 1 + 1 + 1 + 1), 0, none⟩) (by show (w.heap.size + 1 + 1 + 1) ≠ (w.heap.size + 1 + 1 + 1 + 1); omega) _) HDF.out rfl
      have HR9 : Hid (Blk ((w10.setCell ⟨(w.heap.size + 1 + 1 + 1 + 1), 0, none⟩ (.bool true)).putObj D (.deferred none)) (w.heap.size + 1 + 1 + 1 + 1) #[.bool true] 4) := blk_turn (HB90.out.set' rfl) HDF.out rfl
      refine ⟨by simp, .inl ⟨_, _, rfl, run_takeDeferred HDF.out, ?_⟩⟩
      obtain ⟨e0, e1, e2, e3, e4, e5, e6, e7, e8, e9, e10, e11, e12, e13, e14⟩ := blk15 HR8.out
      have e15 := HR9.out.cell 0 rfl
      refine ⟨.tuple #[.agg #[.int .i64 mrc, .int .i64 mdl, .int .i64 mro, .int .i64 mj, .int .i64 mlv, .slice aA an ac, .slice (some ⟨g2, 0, none⟩) n c2, .slice fA F.length fc, .int .i64 mu, .int .i64 ms.sent, .int .i64 ms.lost, .int .i64 ms.dropped, .int .i64 ms.doubled, .int .i64 ms.late, .int .i64 ms.turned], .bool true], ?_, ⟨mrc, mdl, mro, mj, mlv, .slice aA an ac, .slice (some ⟨g2, 0, none⟩) n c2, .slice fA F.length fc, mu, ms⟩, rfl, ?_⟩
      · simp [results, Try.f37, go_sem, e0, e1, e2, e3, e4, e5, e6, e7, e8, e9, e10, e11, e12, e13, e14, e15]
      · obtain rfl := HAN.out
        obtain rfl := HNN.out
        refine tk_end HM.out rfl ?_ HC2.out ?_ HP.out ?_ ?_
        · exact HTE.out _ (hk11.toC.trans (keepC_turn HDF.out rfl _))
        · exact HNE.out _ (hk11.toC.trans (keepC_turn HDF.out rfl _))
        · obtain ⟨v7, hp7, -⟩ := (HPT.out.keep hk11 (fun q hq e => by have hq : col q = 6 + p ∨ col q = 5 := hq; have h1 := HFAR.out q (by omega); omega)).turn (o' := .deferred none) HDF.out rfl
          exact ⟨v7, hp7⟩
        · exact keep_turn (HKE.out.trans hk11 (fun q hq e => by omega)) (by have := HDD.out; omega)
end Go.Proofs.Ytlodiibmofeikaa
