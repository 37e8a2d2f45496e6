/- build: Put that is taken. -/
import Derived.Test.YthjlbbbkghigfaaBuild5
namespace Go.Proofs.Ythjlbbbkghigfaa
open Go.RowKit
set_option linter.unusedVariables false
set_option linter.unusedSimpArgs false

theorem sizeu8 : (Try.prog.info? 5).map (·.size) = some 1 := by kernel_rfl
theorem splice_map {α β : Type} (f : α → β) (L : List α) (o : Nat) (cs : List α) : splice (L.map f) o (cs.map f) = (splice L o cs).map f := by unfold splice; simp
theorem splice_takeN {α : Type} (L cs : List α) (o n : Nat) (h : o + cs.length ≤ n) (hn : n ≤ L.length) : (splice L o cs).take n = splice (L.take n) o cs := by
  unfold splice
  rw [List.take_append, List.take_append, List.length_take, List.take_take, Nat.min_eq_left (show o ≤ L.length by omega), Nat.min_eq_right (show o ≤ n by omega), List.take_of_length_le (show cs.length ≤ n - o by omega), List.drop_take, List.take_take, Nat.min_eq_left (show o ≤ n by omega)]
  congr 3
  omega
theorem nb_lt {s k i : Nat} (hk : 1 ≤ k) : i < nb s k ↔ i * k < s := by
  unfold nb
  rw [show i < (s + k - 1) / k ↔ i + 1 ≤ (s + k - 1) / k from Iff.rfl, Nat.le_div_iff_mul_le hk, Nat.add_mul]
  omega
set_option maxRecDepth 100000 in
set_option maxHeartbeats 1000000 in
/-- its blocks differ: their kinds do -/
structure BuDis (x : BuS) : Prop where
  bp : x.b ≠ x.pb
  bh : x.b ≠ x.hb
  ph : x.pb ≠ x.hb
  hv : ∀ q, x.hv.ownBlock = some q → q ≠ x.b ∧ q ≠ x.pb ∧ q ≠ x.hb
  tv : ∀ q, x.tv.ownBlock = some q → q ≠ x.b ∧ q ≠ x.pb ∧ q ≠ x.hb ∧ x.hv.ownBlock ≠ some q
  lv : ∀ q, x.lv.ownBlock = some q → q ≠ x.b ∧ q ≠ x.pb ∧ q ≠ x.hb ∧ x.hv.ownBlock ≠ some q ∧ x.tv.ownBlock ≠ some q
theorem BuAt.dis {w : World} {x : BuS} (h : BuAt w x) : BuDis x := by
  have hp : Blk w x.pb _ _ := h.plan
  refine ⟨blk_ne h.str hp (by decide), blk_ne h.str h.set.str (by decide), blk_ne hp h.set.str (by decide), fun q hq => ?_, fun q hq => ?_, fun q hq => ?_⟩
  · obtain ⟨cs, hc⟩ := own_blk h.set.row hq
    exact ⟨blk_ne hc h.str (by decide), blk_ne hc hp (by decide), blk_ne hc h.set.str (by decide)⟩
  · obtain ⟨cs, hc⟩ := own_blk h.txt hq
    refine ⟨blk_ne hc h.str (by decide), blk_ne hc hp (by decide), blk_ne hc h.set.str (by decide), fun e => ?_⟩
    obtain ⟨cs2, hc2⟩ := own_blk h.set.row e
    exact blk_ne hc hc2 (by decide) rfl
  · obtain ⟨cs, hc⟩ := own_blk h.log hq
    refine ⟨blk_ne hc h.str (by decide), blk_ne hc hp (by decide), blk_ne hc h.set.str (by decide), fun e => ?_, fun e => ?_⟩
    · obtain ⟨cs2, hc2⟩ := own_blk h.set.row e
      exact blk_ne hc hc2 (by decide) rfl
    · obtain ⟨cs2, hc2⟩ := own_blk h.txt e
      exact blk_ne hc hc2 (by decide) rfl
theorem BuAt.lts {w : World} {x : BuS} (h : BuAt w x) : x.b < w.heap.size ∧ x.pb < w.heap.size ∧ x.hb < w.heap.size ∧ (∀ q, x.hv.ownBlock = some q → q < w.heap.size) ∧ (∀ q, x.tv.ownBlock = some q → q < w.heap.size) ∧ (∀ q, x.lv.ownBlock = some q → q < w.heap.size) :=
  ⟨h.str.lt, Blk.lt h.plan, h.set.str.lt, fun q hq => (own_lt h.set.row hq).2, fun q hq => (own_lt h.txt hq).2, fun q hq => (own_lt h.log hq).2⟩
theorem put_fin (x : BuS) (i : Nat) (tick : Int) (bs : List Int) (w w2 w3 w4 w5 : World) (v' : Value) (l' : List (Int × Int)) (f t g tc lc c5 : Nat) (lA A5 : Option Addr) (cur : Array Value) (H : Hid (BuAt w x)) (HB2 : Hid (Below w.heap.size w w2)) (HE : Hid (putE x (i : Int) tick bs.length = 0))
    (HF : Hid (f = i * x.k)) (HT : Hid (t = min (f + x.k) x.s)) (hst : x.s ≤ tc) (htm : tc ≤ maxLen) (hlen : bs.length + f = t) (HTV : Hid (x.tv = .slice (some ⟨g, 0, none⟩) x.s tc)) (hcz : cur.size = tc) (HN4 : Hid (List.take (x.s * 1) cur.toList = x.text.map (Value.int .u8))) (HGL : Hid (Good (-1) l'))
    (HCL : Hid (∀ (n : Int), cov l' n = (cov x.L n || decide ((i : Int) ≤ n) && decide (n < (i : Int) + 1)))) (HS3 : Hid (SetAt w3 x.hb v' l' (tot l'))) (HO3 : Hid (∀ (g : Nat), v'.ownBlock = some g → x.hv.ownBlock = some g ∨ w2.heap.size ≤ g)) (HK3 : Hid (Keep (fun k => k = x.hb ∨ x.hv.ownBlock = some k) w2 w3))
    (HB4 : Hid (Blk w4 g (splice cur.toList f (bs.map (Value.int .u8))).toArray 5)) (HK4 : Hid (Keep (fun k => k = g) w3 w4)) (HLV : Hid (x.lv = .slice lA x.log.length lc)) (HK5 : Hid (Keep (fun k => (Value.slice lA x.log.length lc).ownBlock = some k) w4 w5))
    (HO5 : Hid (w5.ownsRow 0 37 4 (.slice A5 (x.log.length + 1) c5) (x.log.length + 1) (x.log.flatMap givCells ++ [.int .i64 i, .int .i64 f, .int .i64 t, .int .i64 tick]))) (HG5 : Hid (∀ (g : Nat), (Value.slice A5 (x.log.length + 1) c5).ownBlock = some g → (Value.slice lA x.log.length lc).ownBlock = some g ∨ w4.heap.size ≤ g))
    (HSTR5 : Hid (Blk w5 x.b #[.pointer (some ⟨x.pb, 0, none⟩), .pointer (some ⟨x.hb, 0, none⟩), x.tv, x.lv, .bool x.ov] 63)) :
    PutR x i tick bs w (w5.setCell ⟨x.b, 3, none⟩ (.slice A5 (x.log.length + 1) c5)) { x with hv := v', L := l', text := splice x.text (i * x.k) bs, lv := .slice A5 (x.log.length + 1) c5, log := x.log ++ [⟨i, i * x.k, min ((i : Int) * x.k + x.k) x.s, tick⟩] } := by
  have hd := H.out.dis
  have hl := H.out.lts
  have hsz2 := HB2.out.size
  have hsz3 := HK3.out.size
  have hsz4 := HK4.out.size
  have htg : x.tv.ownBlock = some g := by rw [HTV.out]; rfl
  have hgl := hl.2.2.2.2.1 g htg
  have hlog : x.log.flatMap givCells ++ [.int .i64 i, .int .i64 f, .int .i64 t, .int .i64 tick] = (x.log ++ [(⟨i, i * x.k, min ((i : Int) * x.k + x.k) x.s, tick⟩ : Giv)]).flatMap givCells := by
    rw [List.flatMap_append]
    congr 1
    show _ = givCells _ ++ []
    rw [List.append_nil]
    unfold givCells
    have e1 : ((f : Nat) : Int) = (i : Int) * x.k := by rw [HF.out]; exact Int.natCast_mul _ _
    have e2 : ((t : Nat) : Int) = min ((i : Int) * x.k + x.k) x.s := by rw [← e1]; have := HT.out; omega
    rw [e1, e2]
  have hlv5 : ∀ q, (Value.slice A5 (x.log.length + 1) c5).ownBlock = some q → x.lv.ownBlock = some q ∨ w4.heap.size ≤ q := fun q hq => (HG5.out q hq).imp (fun e => by rw [HLV.out]; exact e) id
  have hK5 : Keep (fun k => x.lv.ownBlock = some k) w4 w5 := HK5.out.mono (fun q _ e => by rw [HLV.out]; exact e)
  have hKF : Keep (fun k => k = x.b) w5 (w5.setCell ⟨x.b, 3, none⟩ (.slice A5 (x.log.length + 1) c5)) := (Keep.refl (fun k => k = x.b) w5).setCell (p := ⟨x.b, 3, none⟩) (.inl rfl) _
  have hvq : ∀ q, v'.ownBlock = some q → x.hv.ownBlock = some q ∨ w.heap.size ≤ q := fun q hq => (HO3.out q hq).imp id (fun e => by omega)
  have hlt : x.text.length = x.s := by simpa using H.out.txt.1
  have hcl : cur.toList.length = tc := by rw [Array.length_toList]; exact hcz
  have hbl : f + (bs.map (Value.int .u8)).length ≤ cur.toList.length := by rw [List.length_map, hcl]; have := HT.out; omega
  refine ⟨⟨H.out.ok, HSTR5.out.set' (by simp), ?_, ?_, HGL.out, ?_, ?_⟩, ⟨rfl, rfl, rfl, rfl, rfl, rfl, rfl⟩, fun e => absurd HE.out e, fun _ => ⟨fun n => ?_, by simp, rfl⟩, ?_, ?_, ?_⟩
  · exact (((((Blk.keep H.out.plan (Keep.none HB2.out) id).keep HK3.out (fun e => e.elim hd.ph (fun e => (hd.hv _ e).2.1 rfl))).keep HK4.out (fun e => (hd.tv g htg).2.1 e.symm)).keep hK5 (fun e => (hd.lv _ e).2.1 rfl)).keep hKF (fun e => hd.bp e.symm))
  · refine ((HS3.out.keep HK4.out (fun e => (hd.tv g htg).2.2.1 e.symm) (fun q hq e => ?_)).keep hK5 (fun e => (hd.lv _ e).2.2.1 rfl) (fun q hq e => ?_)).keep hKF (fun e => hd.bh e.symm) (fun q hq e => ?_)
    · subst e
      rcases hvq _ hq with h | h
      · exact (hd.tv _ htg).2.2.2 h
      · omega
    · rcases hvq _ hq with h | h
      · exact (hd.lv _ e).2.2.2.1 h
      · have := hl.2.2.2.2.2 q e; omega
    · rcases hvq _ hq with h | h
      · exact (hd.hv _ h).1 e
      · have := hl.1; omega
  · show World.ownsRow ..
    simp only
    rw [HTV.out]
    refine ownsRow_keep (ownsRow_keep (ownsRow_of (splice cur.toList f (bs.map (Value.int .u8))).toArray (Nat.zero_le _) HB4.out hst htm (by rw [List.size_toArray, splice_len _ _ _ hbl, hcl]; omega) ?_ (by rw [List.length_map, splice_len _ _ _ (by rw [hlt]; have := HT.out; have := HF.out; omega), hlt]; omega)) hK5 (fun q hq e => ?_)) hKF (fun q hq e => ?_)
    · show (splice _ _ _).take _ = _
      rw [splice_takeN _ _ _ _ (by rw [List.length_map]; have := HT.out; omega) (by rw [hcl]; omega), HN4.out, splice_map, HF.out]
    · cases hq
      exact (hd.lv _ e).2.2.2.2 htg
    · cases hq
      exact (hd.tv _ htg).1 e
  · show World.ownsRow ..
    simp only
    rw [← hlog, List.length_append]
    refine ownsRow_keep HO5.out hKF (fun q hq e => ?_)
    rcases hlv5 q hq with h | h
    · exact (hd.lv _ h).1 e
    · have := hl.1; omega
  · show cov l' n = _
    rw [HCL.out n]
    congr 1
    by_cases e : n = (i : Int)
    · subst e; simp; omega
    · rw [decide_eq_false e]
      by_cases e2 : (i : Int) ≤ n
      · rw [decide_eq_false (show ¬ n < (i : Int) + 1 by omega), Bool.and_false]
      · rw [decide_eq_false e2, Bool.false_and]
  · intro B hB hn
    refine ⟨hn.b, hn.pb, hn.hb, fun q hq => ?_, hn.tv, fun q hq => ?_⟩
    · rcases hvq _ hq with h | h
      · exact hn.hv _ h
      · omega
    · rcases hlv5 _ hq with h | h
      · exact hn.lv _ h
      · omega
  · have k1 : Keep (BuSet x) w w2 := (Keep.none HB2.out).mono (fun _ _ h => h.elim)
    refine (((k1.trans HK3.out (fun q _ e => e.elim (fun e => .inr (.inl e)) (fun e => .inr (.inr (.inl e))))).trans HK4.out (fun q _ e => .inr (.inr (.inr (.inl (by rw [e]; exact htg)))))).trans hK5 (fun q _ e => .inr (.inr (.inr (.inr e))))).trans hKF (fun q _ e => .inl e)
  · intro q e
    rcases e with e | e | e | e | e
    · exact .inl (.inl e)
    · exact .inl (.inr (.inl e))
    · exact (hvq q e).imp (fun h => .inr (.inr (.inl h))) id
    · exact .inl (.inr (.inr (.inr (.inl e))))
    · exact (hlv5 q e).imp (fun h => .inr (.inr (.inr (.inr h)))) (fun h => by omega)
set_option maxRecDepth 100000 in
set_option maxHeartbeats 1000000 in
theorem put_ok (x : BuS) (i : Nat) (tick : Int) (v : Value) (bs : List Int) (w : World) (h : BuAt w x) (hr : Reads w 1 v bs.length (bs.map (Value.int .u8))) (hva : ∀ g, v.ownBlock = some g → ¬ BuSet x g) (hi : i < nb x.s x.k) (hll : x.log.length ≤ 100000) (hE : putE x i tick bs.length = 0) :
    Calls Try.prog 10 #[.pointer (some ⟨x.b, 0, none⟩), .int .i64 i, v, .int .i64 tick] w fun e w' => ∃ x', e = .returned (.int .i64 0) ∧ PutR x i tick bs w w' x' := by
  have hz := nb_le h.ok.1 h.ok.2.1
  have hk := h.ok.2.2.1
  have hk1 := h.ok.2.1
  have hs := h.ok.1
  have hmul := mul_le' (i := i) (k := x.k) (by omega) hk
  have his := (nb_lt (s := x.s) (i := i) hk1).1 hi
  have hby := bytes_yes x.pb x.s x.k x.n i w h.plan h.ok hi
  have hrb : rightB (i : Int) ((i : Int) + 1) = true := rightB_iff.2 ⟨by omega, by omega, by omega⟩
  obtain ⟨f, hf⟩ : ∃ f : Nat, f = i * x.k := ⟨_, rfl⟩
  obtain ⟨t, ht⟩ : ∃ t : Nat, t = min (f + x.k) x.s := ⟨_, rfl⟩
  have e2 : min ((i * x.k + x.k : Nat) : Int) (x.s : Int) = (t : Int) := by omega
  rw [← hf] at hby
  rw [show ((f + x.k : Nat) : Int) = ((i * x.k + x.k : Nat) : Int) by rw [hf], e2] at hby
  have hcond : x.ov = false ∧ ¬ tick < 0 ∧ ¬ 1099511627776 < tick ∧ (bs.length : Int) = (t : Int) - (f : Int) ∧ cov x.L i = false := by
    unfold putE at hE
    have e3 : min ((i : Int) * x.k + x.k) x.s - (i : Int) * x.k = (t : Int) - (f : Int) := by rw [← e2, hf]; simp
    rw [e3] at hE
    split at hE
    · cases hE
    · split at hE
      · cases hE
      · split at hE
        · cases hE
        · split at hE
          · cases hE
          · rename_i q1 q2 q3 q4
            refine ⟨by simpa using q1, by omega, by omega, by omega, by simpa using q4⟩
  obtain ⟨hov, ht0, ht1, hlen, hcv⟩ := hcond
  have hft : f < t ∧ t ≤ x.s := by omega
  have hEE := hE
  obtain ⟨tA, tc, htv, q1, q2, q3, q4⟩ := ownsRow_shape h.txt
  obtain ⟨g, hg⟩ : ∃ g, tA = some ⟨g, 0, none⟩ := by
    cases hA : tA with
    | none => have := q2 hA; omega
    | some a => obtain ⟨g, hg⟩ := q4 a hA; exact ⟨g, by rw [← hA]; exact hg⟩
  subst hg
  have htx := h.txt
  rw [htv] at htx
  obtain ⟨cur, -, hbk, hn1, hn2, hn3, hn4⟩ := ownsRow_cur htx
  have hcl : cur.toList.length = tc * 1 := by simpa using hn3
  have HH := Lib.hid (fun w h => bhas_any x i w h (by omega))
  have HAD := Lib.hid (fun w h => add_any x.hb x.hv x.L i ((i : Int) + 1) w h)
  have H := Lib.hid h
  have HR := Lib.hid hr
  have HVA := Lib.hid hva
  obtain ⟨A0, k0, rfl, -⟩ := hr.val
  obtain ⟨m, hm⟩ : ∃ m, m = bs.length := ⟨_, rfl⟩
  have HM := Lib.hid hm
  rw [← hm] at hlen HR HVA ⊢
  have HBY := Lib.hid hby
  have HOV := Lib.hid hov
  have HCV := Lib.hid hcv
  have HTV := Lib.hid htv
  have HBK := Lib.hid hbk
  have HN4 := Lib.hid hn4
  have HF := Lib.hid hf
  have HT := Lib.hid ht
  have HE := Lib.hid hE
  have HRB := Lib.hid hrb
  obtain ⟨c0, c1, c2, c3, c4⟩ := h.c
  have HD := Lib.hid h.dis
  obtain ⟨i0, hi0, hz0, hz1, hz2⟩ := info_parts info_giv
  have HI0 := Lib.hid hi0
  have HZ0 := Lib.hid hz0
  have HZ1 := Lib.hid hz1
  have HZ2 := Lib.hid hz2
  have e4 : ((m : Int) != (t : Int) - (f : Int)) = false := by simp [hlen]
  have HLEN : Hid (m + f = t) := by show _ = _; omega
  obtain ⟨f1, f2⟩ := hft
  have ht16 : t ≤ 16384 := by omega
  have hi16 : i ≤ 16384 := by omega
  have tb0 : decide (tick < 0) = false := decide_eq_false ht0
  have tb1 : decide (1099511627776 < tick) = false := decide_eq_false ht1
  clear h hr hva hrb hi hE hEE hby hov hcv htv hbk hn4 hf ht e2 htx his hz hk hk1 hmul hm q1 q2 q3 q4 hi0 hz0 hz1 hz2 hlen
  go_enter Try.func10, Try.ntmps10
  go_wp2_with fail
  refine HBY.out.mono ?_
  rintro e w1 ⟨rfl, hb1⟩
  have HB1 := Lib.hid hb1
  have H1 := Lib.hid (H.out.below hb1)
  obtain ⟨d0, d1, d2, d3, d4⟩ := H1.out.c
  rw [HOV.out] at d4
  have HH1 := Lib.hid (HH.out w1 H1.out)
  rw [HCV.out] at HH1
  clear hb1
  go_wp2_with fail
  refine HH1.out.mono ?_
  rintro e w2 ⟨rfl, hb2⟩
  have HB2 : Hid (Below w.heap.size w w2) := bmore HB1.out hb2 HB1.out.size
  have H2 := Lib.hid (H1.out.below hb2)
  obtain ⟨g0, g1, g2, g3, g4⟩ := H2.out.c
  have HA2 := Lib.hid (HAD.out w2 H2.out.set H2.out.good)
  clear hb2 d0 d1 d2 d3 d4
  go_wp2_with fail
  refine HA2.out.mono ?_
  rintro e w3 ⟨v', l', ⟨gl, cl⟩, he, hs3, ho3, hk3⟩
  rw [HRB.out, if_pos rfl] at he
  simp only [HRB.out, Bool.true_and] at cl
  subst he
  have HGL := Lib.hid gl
  have HCL := Lib.hid cl
  have HS3 := Lib.hid hs3
  have HO3 := Lib.hid ho3
  have HK3 := Lib.hid hk3
  have HSTR3 : Hid (Blk w3 x.b #[.pointer (some ⟨x.pb, 0, none⟩), .pointer (some ⟨x.hb, 0, none⟩), x.tv, x.lv, .bool x.ov] 63) := H2.out.str.keep hk3 (fun e => e.elim HD.out.bh (fun e => (HD.out.hv _ e).1 rfl))
  have HTX3 : Hid (w3.ownsRow 0 5 1 x.tv x.s (x.text.map (Value.int .u8))) := ownsRow_keep H2.out.txt hk3 (fun q hq e => e.elim (HD.out.tv q hq).2.2.1 (fun e => (HD.out.tv q hq).2.2.2 e))
  obtain ⟨j0, j1, j2, j3, j4⟩ := blk5 HSTR3.out
  rw [HTV.out] at j2
  have k1 : (0 : Int) ≤ (f : Int) := by omega
  have k2 : (f : Int) ≤ (t : Int) := by omega
  have k3 : (t : Int) ≤ (tc : Int) := by omega
  have k4 : ¬ (tc = f) := by omega
  have k5 : (0 : Int) ≤ (t : Int) := by omega
  clear gl cl hs3 ho3 hk3 g0 g1 g2 g3 g4
  have HRV3 : Hid (Reads w3 1 (.slice A0 m k0) m (bs.map (Value.int .u8))) := (HR.out.keep (Keep.none HB2.out) (fun _ _ _ => id)).keep HK3.out (fun q hq _ e => HVA.out q hq (e.elim (fun e => .inr (.inl e)) (fun e => .inr (.inr (.inl e)))))
  have HBK3 : Hid (Blk w3 g cur 5) := (HBK.out.below HB2.out).keep HK3.out (fun e => e.elim (HD.out.tv g (by rw [HTV.out]; rfl)).2.2.1 (fun e => (HD.out.tv g (by rw [HTV.out]; rfl)).2.2.2 e))
  have hbsl : (bs.map (Value.int .u8)).length = m := by rw [List.length_map]; exact HM.out.symm
  have hcz : cur.size = tc := by rw [hn3]; omega
  obtain ⟨w4, hr4, hb4, hk4⟩ := run_cpy (P := Try.prog) w3 32 32 3 5 g f (t - f) (tc - f) cur 5 1 Try.underlying32 sizeu8 HBK3.out A0 m k0 _ HRV3.out (u8_one _) (by have := HLEN.out; omega) (by rw [hbsl, hcz]; have := HLEN.out; omega)
  have HR4 := Lib.hid hr4
  have HB4 := Lib.hid hb4
  have HK4 := Lib.hid hk4
  have HSTR4 : Hid (Blk w4 x.b #[.pointer (some ⟨x.pb, 0, none⟩), .pointer (some ⟨x.hb, 0, none⟩), x.tv, x.lv, .bool x.ov] 63) := HSTR3.out.keep hk4 (fun e => (HD.out.tv g (by rw [HTV.out]; rfl)).1 e.symm)
  have HLG4 : Hid (w4.ownsRow 0 37 4 x.lv x.log.length (x.log.flatMap givCells)) := ownsRow_keep (ownsRow_keep H2.out.log HK3.out (fun q hq e => e.elim (HD.out.lv q hq).2.2.1 (fun e => (HD.out.lv q hq).2.2.2.1 e))) hk4 (fun q hq e => (HD.out.lv q hq).2.2.2.2 (by rw [HTV.out, e]; rfl))
  obtain ⟨lA, lc, hlv⟩ := ownsRow_slice HLG4.out
  have j3' : w4.cell? ⟨x.b, 3, none⟩ = some (.slice lA x.log.length lc) := by rw [← hlv]; exact HSTR4.out.cell 3 rfl
  have HLV := Lib.hid hlv
  have HLG5 : Hid (w4.ownsRow 0 37 4 (.slice lA x.log.length lc) x.log.length (x.log.flatMap givCells)) := by show World.ownsRow ..; rw [← hlv]; exact HLG4.out
  have HCZ := Lib.hid hcz
  clear hr4 hb4 hk4 hlv hcz hn3 hcl hbsl c0 c1 c2 c3 c4
  go_wp2_with (first
    | (refine wpList_run rfl (.tmp 63) (.tmp 64) _ _ .copy Builtin.copy_ bcopy rfl (.slice (some ⟨g, f, none⟩) (t - f) (tc - f)) (.slice A0 m k0) rfl rfl _ _ HR4.out ?_)
    | (at_builtin; refine wpList_app1 rfl (.tmp 70) (.tmp 76) 31 rfl 0 37 i0 (.agg #[.int .i64 0, .int .i64 0, .int .i64 0, .int .i64 0]) 4 32 Try.underlying31 HI0.out HZ0.out HZ1.out HZ2.out rfl (.slice lA x.log.length lc) x.log.length _ rfl HLG5.out #[.int .i64 i, .int .i64 f, .int .i64 t, .int .i64 tick] 1 rfl rfl (by intro u hu; simp at hu; rcases hu with rfl | rfl | rfl | rfl <;> rfl) (by omega) (by omega) (Nat.zero_le _) ?_; rintro A5 c5 w5 hown5 hk5 hg5 -; have HK5 := Lib.hid hk5; have HO5 := Lib.hid hown5; have HG5 := Lib.hid hg5; have hstr5 := HSTR4.out.keep hk5 (fun e => (HD.out.lv x.b (by rw [HLV.out]; exact e)).1 rfl); have HSTR5 := Lib.hid hstr5; have s3 := hstr5.cell 3 rfl; have s3f := hstr5.frozen 3; clear hown5 hk5 hg5 hstr5))
  go_ret
  all_goals exact ⟨rfl, _, put_fin x i tick bs w w2 w3 w4 w5 v' l' f t g tc lc c5 lA A5 cur H HB2 HE HF HT hn1 hn2 (by have := HLEN.out; have := HM.out; omega) HTV HCZ.out HN4 HGL HCL HS3 HO3 HK3 HB4 HK4 HLV HK5 HO5 HG5 HSTR5⟩
end Go.Proofs.Ythjlbbbkghigfaa
