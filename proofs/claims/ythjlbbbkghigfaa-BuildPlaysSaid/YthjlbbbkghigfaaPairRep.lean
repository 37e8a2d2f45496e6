/- ranges: slices.Replace at pairs, where what is new is not more. -/
import Derived.Test.YthjlbbbkghigfaaPairIns3
import Derived.Test.YthjlbbbkghigfaaRep
namespace Go.Proofs.Ythjlbbbkghigfaa
open Go.RowKit
set_option linter.unusedVariables false
set_option linter.unusedSimpArgs false

theorem flat_take (l : List (Int × Int)) (p : Nat) (hp : p ≤ l.length) : (l.flatMap pairCells).take (p * 2) = (l.take p).flatMap pairCells := by
  have h := List.take_append_drop p l
  conv => lhs; rw [← h, List.flatMap_append]
  rw [List.take_left' (by rw [flatMap_length pairCells_len, List.length_take, Nat.min_eq_left hp])]
theorem flat_drop (l : List (Int × Int)) (p : Nat) (hp : p ≤ l.length) : (l.flatMap pairCells).drop (p * 2) = (l.drop p).flatMap pairCells := by
  have h := List.take_append_drop p l
  conv => lhs; rw [← h, List.flatMap_append]
  rw [List.drop_left' (by rw [flatMap_length pairCells_len, List.length_take, Nat.min_eq_left hp])]
/-- from p up to q are others -/
def rep (l : List (Int × Int)) (p q : Nat) (new : List (Int × Int)) : List (Int × Int) := l.take p ++ new ++ l.drop q
theorem rep_end (l : List (Int × Int)) (p q : Nat) (new : List (Int × Int)) (h : l.length ≤ q) : rep l p q new = l.take p ++ new := by unfold rep; rw [List.drop_of_length_le h, List.append_nil]
theorem zeroV_pair : ∀ w, (zeroValue 46).run Try.prog w = .ok (.agg #[.int .i64 0, .int .i64 0]) w := Try.zeroValue46

set_option maxRecDepth 100000 in
set_option maxHeartbeats 1000000 in
/-- up to the end -/
theorem replace_end (base g n c p m : Nat) (l new : List (Int × Int)) (nA : Option Addr) (nc : Nat) (w : World) (hl : l.length = n) (hpq : p < n) (hm : p + m ≤ n) (hbig : n ≤ 1000000000)
    (h : w.ownsRow base 46 2 (.slice (some ⟨g, 0, none⟩) n c) n (l.flatMap pairCells)) (hr : Reads w 2 (.slice nA m nc) m (new.flatMap pairCells)) :
    Calls Try.prog 50 #[.slice (some ⟨g, 0, none⟩) n c, .int .i64 p, .int .i64 n, .slice nA m nc] w fun e w' => e = .returned (.slice (some ⟨g, 0, none⟩) (p + m) c) ∧
      w'.ownsRow base 46 2 (.slice (some ⟨g, 0, none⟩) (p + m) c) (p + m) ((rep l p n new).flatMap pairCells) ∧ Keep (fun k => k = g) w w' := by
  obtain ⟨cur, hb, hg, hmc, hcm, hcs, htk⟩ := ownsRow_cur h
  obtain ⟨i0, hi, hz0, hz1, hz2⟩ := info_parts info_pair
  obtain ⟨W1, hW1, hB1, hK1⟩ := run_apn (P := Try.prog) w 44 44 46 i0 Try.underlying44 hi hz1 g p c cur hg hcs hcm nA m nc _ hr (pairs_one new) (by omega)
  have hnl : (new.flatMap pairCells).length = m * 2 := hr.len
  have hcl : cur.toList.length = c * 2 := by simpa using hcs
  have hf : p * 2 + (new.flatMap pairCells).length ≤ cur.toList.length := by rw [hnl, hcl]; omega
  obtain ⟨cur1, hcur1⟩ : ∃ cur1, cur1 = (splice cur.toList (p * 2) (new.flatMap pairCells)).toArray := ⟨_, rfl⟩
  rw [← hcur1] at hB1
  have hc1 : cur1.size = c * 2 := by rw [hcur1, List.size_toArray, splice_len _ _ _ hf, hcl]
  have ht1 : cur1.toList.take ((p + m) * 2) = (l.take p ++ new).flatMap pairCells := by
    rw [hcur1, show (p + m) * 2 = p * 2 + (new.flatMap pairCells).length by rw [hnl]; omega]
    show (splice _ _ _).take _ = _
    rw [splice_take _ _ _ hf, List.flatMap_append, ← flat_take l p (by omega), ← htk, List.take_take, Nat.min_eq_left (by omega)]
  have hnew : new.length = m := by have := hr.len; rw [flatMap_length pairCells_len] at this; omega
  have HFIN : Hid (∀ (W : World) (cur2 : Array Value), Blk W g cur2 46 → cur2.size = cur1.size → cur2.toList.take ((p + m) * 2) = cur1.toList.take ((p + m) * 2) → W.ownsRow base 46 2 (.slice (some ⟨g, 0, none⟩) (p + m) c) (p + m) ((rep l p n new).flatMap pairCells)) := fun W cur2 hW h2 h3 => by
    rw [rep_end l p n new (by omega)]; exact
    ownsRow_of cur2 hb hW (by omega) hcm (by rw [h2, hc1]) (by rw [h3, ht1]) (by rw [flatMap_length pairCells_len, List.length_append, List.length_take, Nat.min_eq_left (by omega), hnew])
  have hclr : ∀ ty, ∃ W cur', (Builtin.clear_ #[44] ty #[.slice (some ⟨g, (p + m) * 2, none⟩) (n - (p + m)) (c - (p + m))]).run Try.prog W1 = .ok (.tuple #[]) W ∧ Blk W g cur' 46 ∧ cur'.size = cur1.size ∧ cur'.toList.take ((p + m) * 2) = cur1.toList.take ((p + m) * 2) ∧ Keep (fun k => k = g) W1 W := fun ty =>
    run_clr W1 44 46 ty _ Try.underlying44 zeroV_pair (by decide) _ g ((p + m) * 2) (n - (p + m)) (c - (p + m)) (.inr rfl) cur1 46 hB1 (by
      have e : (Value.agg #[Value.int .i64 0, Value.int .i64 0]).cells.size = 2 := rfl
      rw [e, hc1]; omega)
  have HCLR := Lib.hid hclr
  have HW1 := Lib.hid hW1
  have HB1 := Lib.hid hB1
  have HK1 := Lib.hid hK1
  have i1 : (0 : Int) ≤ (p : Int) := by omega
  have i2 : (p : Int) ≤ (n : Int) := by omega
  have i3 : (n : Int) ≤ (c : Int) := by omega
  have i4 : ((p : Int) == (n : Int)) = false := by rw [beq_eq_false_iff_ne]; omega
  have i5 : (p : Int) ≤ (c : Int) := by omega
  clear h hr hg hmc hcm hcs htk hW1 hB1 hK1 hnl hcl hf hcur1 hc1 ht1 hclr hl hnew
  by_cases hlt : p + m < n
  · have j1 : (p : Int) + (m : Int) < (n : Int) := by omega
    have j2 : ¬ (c = p + m) := by omega
    have j3 : (0 : Int) ≤ (p : Int) + (m : Int) := by omega
    have j4 : (p : Int) + (m : Int) ≤ (c : Int) := by omega
    have j5 : ((p : Int) + (m : Int)).toNat = p + m := by omega
    go_enter Try.func50, Try.ntmps50
    go_wp2_with (first
      | (with_reducible refine wpList_run rfl (.tmp 32) (.tmp 33) _ _ .append Builtin.append_ bappend rfl (.slice (some ⟨g, 0, none⟩) p c) (.slice nA m nc) rfl rfl _ _ HW1.out ?_)
      | (obtain ⟨W2, cur2, hr2, hb2, hs2, ht2, hk2⟩ := HCLR.out _; with_reducible refine wpList_run1 rfl (.tmp 43) _ .clear Builtin.clear_ bclear rfl (.slice (some ⟨g, (p + m) * 2, none⟩) (n - (p + m)) (c - (p + m))) rfl _ _ hr2 ?_))
    go_ret
    exact ⟨rfl, HFIN.out W2 cur2 hb2 hs2 ht2, HK1.out.trans hk2 (fun _ _ h => h)⟩
  · obtain rfl : p + m = n := by omega
    go_enter Try.func50, Try.ntmps50
    go_wp2_with (with_reducible refine wpList_run rfl (.tmp 32) (.tmp 33) _ _ .append Builtin.append_ bappend rfl (.slice (some ⟨g, 0, none⟩) p c) (.slice nA m nc) rfl rfl _ _ HW1.out ?_)
    go_ret
    exact ⟨rfl, HFIN.out W1 cur1 HB1.out rfl rfl, HK1.out⟩

set_option maxRecDepth 100000 in
set_option maxHeartbeats 2000000 in
/-- within -/
theorem replace_mid (base g n c p q m r : Nat) (l new : List (Int × Int)) (nA : Option Addr) (nc : Nat) (w : World) (hl : l.length = n) (hpq : p < q) (hq : q + (r + 1) = n) (hm : p + m ≤ q) (hbig : n ≤ 1000000000)
    (h : w.ownsRow base 46 2 (.slice (some ⟨g, 0, none⟩) n c) n (l.flatMap pairCells)) (hr : Reads w 2 (.slice nA m nc) m (new.flatMap pairCells)) :
    Calls Try.prog 50 #[.slice (some ⟨g, 0, none⟩) n c, .int .i64 p, .int .i64 q, .slice nA m nc] w fun e w' => e = .returned (.slice (some ⟨g, 0, none⟩) (p + m + (r + 1)) c) ∧
      w'.ownsRow base 46 2 (.slice (some ⟨g, 0, none⟩) (p + m + (r + 1)) c) (p + m + (r + 1)) ((rep l p q new).flatMap pairCells) ∧ Keep (fun k => k = g) w w' := by
  obtain ⟨cur, hb, hg, hmc, hcm, hcs, htk⟩ := ownsRow_cur h
  have hcl : cur.toList.length = c * 2 := by simpa using hcs
  have hnl : (new.flatMap pairCells).length = m * 2 := hr.len
  have hnew : new.length = m := by have := hr.len; rw [flatMap_length pairCells_len] at this; omega
  -- the first copy: what is new
  have hcp1 : ∀ j : Nat, ∃ W cur1, (Builtin.copy_ #[44, 44] 3 #[.slice (some ⟨g, p * 2, none⟩) (p + m + (r + 1) - p) (c - p), .slice nA m nc]).run Try.prog (w.drewN j) = .ok (goInt m) W ∧ Hid (Blk W g cur1 46) ∧ Hid (cur1.toList = splice cur.toList (p * 2) (new.flatMap pairCells)) ∧ Hid (Keep (fun k => k = g) w W) := fun j => by
    obtain ⟨W, h1, h2, h3⟩ := run_cpy (P := Try.prog) (w.drewN j) 44 44 3 46 g (p * 2) (p + m + (r + 1) - p) (c - p) cur 46 2 Try.underlying44 infos_pair (hg.drewN j) nA m nc _ (hr.drewN j) (pairs_one new) (by omega) (by rw [hnl]; omega)
    exact ⟨W, _, h1, h2, rfl, ((Keep.refl (fun k => k = g) w).drewN j).trans h3 (fun _ _ h => h)⟩
  have hf1 : p * 2 + (new.flatMap pairCells).length ≤ cur.toList.length := by rw [hnl, hcl]; omega
  have hrd : ∀ (W : World) (cur1 : Array Value), Blk W g cur1 46 → cur1.toList = splice cur.toList (p * 2) (new.flatMap pairCells) → Reads W 2 (.slice (some ⟨g, q * 2, none⟩) (n - q) (c - q)) (n - q) ((l.drop q).flatMap pairCells) := fun W cur1 hW e => by
    refine ⟨by rw [flatMap_length pairCells_len, List.length_drop, hl], _, _, rfl, by omega, by omega, fun ha => (by cases ha), fun a ha _ => (by cases ha; exact ⟨rfl, hW.lt⟩), fun j u hu => ⟨_, rfl, ?_⟩⟩
    refine hW.cell (q * 2 + j) ?_
    have e1 : cur1[q * 2 + j]? = cur1.toList[q * 2 + j]? := by simp
    have hjl : j < (n - q) * 2 := by have := (List.getElem?_eq_some_iff.1 hu).1; rw [flatMap_length pairCells_len, List.length_drop, hl] at this; exact this
    rw [e1, e]
    unfold splice
    rw [← List.append_assoc, List.getElem?_append_right (by rw [List.length_append, List.length_take, hnl, hcl]; omega), List.length_append, List.length_take, hnl, hcl, Nat.min_eq_left (by omega), List.getElem?_drop, show p * 2 + m * 2 + (q * 2 + j - (p * 2 + m * 2)) = q * 2 + j by omega]
    have e2 : (cur.toList.take (n * 2))[q * 2 + j]? = some u := by
      rw [htk]
      have e3 := flat_drop l q (by omega)
      have e4 : ((l.flatMap pairCells).drop (q * 2))[j]? = some u := by rw [e3]; exact hu
      rwa [List.getElem?_drop] at e4
    rw [List.getElem?_take] at e2
    split at e2
    · exact e2
    · cases e2
  have hcp2 : ∀ (W : World) (cur1 : Array Value), Blk W g cur1 46 → cur1.toList = splice cur.toList (p * 2) (new.flatMap pairCells) → ∃ W2 cur2, (Builtin.copy_ #[44, 44] 3 #[.slice (some ⟨g, (p + m) * 2, none⟩) (r + 1) (c - (p + m)), .slice (some ⟨g, q * 2, none⟩) (n - q) (c - q)]).run Try.prog W = .ok (goInt ((n - q : Nat) : Int)) W2 ∧
      Hid (Blk W2 g cur2 46) ∧ Hid (cur2.size = c * 2) ∧ Hid (cur2.toList.take ((p + m + (r + 1)) * 2) = (rep l p q new).flatMap pairCells) ∧ Hid (Keep (fun k => k = g) W W2) := fun W cur1 hW e => by
    have h1l : cur1.toList.length = c * 2 := by rw [e, splice_len _ _ _ hf1, hcl]
    have hdl : ((l.drop q).flatMap pairCells).length = (r + 1) * 2 := by rw [flatMap_length pairCells_len, List.length_drop, hl]; congr 1; omega
    have hf2 : (p + m) * 2 + ((l.drop q).flatMap pairCells).length ≤ cur1.toList.length := by rw [hdl, h1l]; omega
    obtain ⟨W2, h1, h2, h3⟩ := run_cpy (P := Try.prog) W 44 44 3 46 g ((p + m) * 2) (r + 1) (c - (p + m)) cur1 46 2 Try.underlying44 infos_pair hW _ (n - q) (c - q) _ (hrd W cur1 hW e) (pairs_one _) (by omega) (by simpa using hf2)
    refine ⟨W2, _, h1, h2, ?_, ?_, h3⟩
    · refine Lib.hid ?_
      rw [List.size_toArray, splice_len _ _ _ hf2, h1l]
    · refine Lib.hid ?_
      rw [show (p + m + (r + 1)) * 2 = (p + m) * 2 + ((l.drop q).flatMap pairCells).length by rw [hdl]; omega]
      show (splice _ _ _).take _ = _
      rw [splice_take _ _ _ hf2]
      unfold rep
      rw [List.flatMap_append, List.flatMap_append, e, show (p + m) * 2 = p * 2 + (new.flatMap pairCells).length by rw [hnl]; omega, splice_take _ _ _ hf1, ← flat_take l p (by omega), ← htk, List.take_take, Nat.min_eq_left (by omega)]
  have hclr : ∀ (W : World) (cur2 : Array Value), Blk W g cur2 46 → cur2.size = c * 2 → ∀ (A : Option Addr) (cc : Nat) ty, (n - (p + m + (r + 1)) = 0 ∨ A = some ⟨g, (p + m + (r + 1)) * 2, none⟩) → ∃ W3 cur3, (Builtin.clear_ #[44] ty #[.slice A (n - (p + m + (r + 1))) cc]).run Try.prog W = .ok (.tuple #[]) W3 ∧ Hid (Blk W3 g cur3 46 ∧ cur3.size = cur2.size ∧ cur3.toList.take ((p + m + (r + 1)) * 2) = cur2.toList.take ((p + m + (r + 1)) * 2) ∧ Keep (fun k => k = g) W W3) := fun W cur2 hW hs A cc ty hA => by
    obtain ⟨W3, cur3, h1, h2, h3, h4, h5⟩ := run_clr (P := Try.prog) W 44 46 ty _ Try.underlying44 zeroV_pair (by decide) A g ((p + m + (r + 1)) * 2) (n - (p + m + (r + 1))) cc hA cur2 46 hW (by
      have e : (Value.agg #[Value.int .i64 0, Value.int .i64 0]).cells.size = 2 := rfl
      rw [e, hs]; omega)
    exact ⟨W3, cur3, h1, h2, h3, h4, h5⟩
  have HFIN : Hid (∀ (W : World) (cur3 : Array Value), Blk W g cur3 46 → cur3.size = c * 2 → cur3.toList.take ((p + m + (r + 1)) * 2) = (rep l p q new).flatMap pairCells → W.ownsRow base 46 2 (.slice (some ⟨g, 0, none⟩) (p + m + (r + 1)) c) (p + m + (r + 1)) ((rep l p q new).flatMap pairCells)) := fun W cur3 hW h2 h3 =>
    ownsRow_of cur3 hb hW (by omega) hcm h2 h3 (by
      have e1 : cur3.toList.length = c * 2 := by simpa using h2
      rw [← h3, List.length_take, e1]; omega)
  have HCP1 := Lib.hid hcp1
  have HCP2 := Lib.hid hcp2
  have HCLR := Lib.hid hclr
  have i1 : (0 : Int) ≤ (p : Int) := by omega
  have i2 : (p : Int) ≤ (q : Int) := by omega
  have i3 : (q : Int) ≤ (n : Int) := by omega
  have i3' : (n : Int) ≤ (c : Int) := by omega
  have i3'' : (q : Int) ≤ (c : Int) := by omega
  have i4 : ((p : Int) == (q : Int)) = false := by rw [beq_eq_false_iff_ne]; omega
  have i4' : ((q : Int) == (n : Int)) = false := by rw [beq_eq_false_iff_ne]; omega
  have i5 : (p : Int) ≤ (c : Int) := by omega
  have i5' : (p : Int) ≤ (n : Int) := by omega
  have i6 : ¬ (c = p) := by omega
  have i7 : ¬ (c = q) := by omega
  have i8 : ¬ (c = p + m) := by omega
  clear h hr hg hmc hcm hcs htk hcl hnl hnew hcp1 hcp2 hclr hf1 hrd hl hb
  go_enter Try.func50, Try.ntmps50
  go_wp2_with fail
  have W1 : IntKind.i64.wrap ((p : Int) + (m : Int)) = (p : Int) + (m : Int) := IntWalk.i64_in _ (by omega)
  have W2 : IntKind.i64.wrap ((p : Int) + (m : Int) + ((n - q : Nat) : Int)) = ((p + m + (r + 1) : Nat) : Int) := by rw [IntWalk.i64_in _ (by omega)]; omega
  go_quiet (fail)
  clear W1 W2
  obtain ⟨Wa, cur1, hr1, HB1, HE1, HK1⟩ := HCP1.out nq
  have HR1 := Lib.hid hr1
  clear hr1
  have j1 : (p : Int) + (m : Int) + ((r : Int) + 1) ≤ (c : Int) := by omega
  have j2 : (0 : Int) ≤ (p : Int) + (m : Int) + ((r : Int) + 1) := by omega
  have j3 : (p : Int) + (m : Int) ≤ (q : Int) := by omega
  have j4 : (p : Int) ≤ (p : Int) + (m : Int) + ((r : Int) + 1) := by omega
  have j5 : ((p : Int) + (m : Int) + ((r : Int) + 1)).toNat = p + m + (r + 1) := by omega
  go_wp2_with ((refine wpList_run rfl (.tmp 95) (.tmp 96) _ _ .copy Builtin.copy_ bcopy rfl (.slice (some ⟨g, p * 2, none⟩) (p + m + (r + 1) - p) (c - p)) (.slice nA m nc) rfl rfl _ _ HR1.out ?_))
  obtain ⟨Wb, cur2, hr2, HB2, HS2, HT2, HK2⟩ := HCP2.out Wa.drew cur1 HB1.out.drew HE1.out
  have HR2 := Lib.hid hr2
  have W1 : IntKind.i64.wrap ((p : Int) + (m : Int)) = (p : Int) + (m : Int) := IntWalk.i64_in _ (by omega)
  have j6 : ((p : Int) + (m : Int)).toNat = p + m := by omega
  have j7 : (0 : Int) ≤ (p : Int) + (m : Int) := by omega
  have j8 : (p : Int) + (m : Int) ≤ (p : Int) + (m : Int) + ((r : Int) + 1) := by omega
  clear hr2
  go_region_held3 (fun _ => True) (trivial)
    (first
      | (refine step_run rfl (.tmp 103) (.tmp 106) _ _ .copy Builtin.copy_ bcopy rfl (.slice (some ⟨g, (p + m) * 2, none⟩) (r + 1) (c - (p + m))) (.slice (some ⟨g, q * 2, none⟩) (n - q) (c - q)) rfl rfl _ _ HR2.out ?_))
  clear W1
  have HK3 : Hid (Keep (fun k => k = g) w Wb) := HK1.out.drew.trans HK2.out (fun _ _ h => h)
  have j9 : (p : Int) + (m : Int) + ((r : Int) + 1) ≤ (n : Int) := by omega
  by_cases hct : c = p + m + (r + 1)
  · obtain rfl : q = p + m := by omega
    obtain rfl : n = p + m + (r + 1) := by omega
    subst hct
    go_wp2_with (refine wpList_run1 rfl (.tmp 110) _ .clear Builtin.clear_ bclear rfl (.slice (some ⟨g, 0, none⟩) 0 0) rfl _ _ (run_clr0 _ _ _ _ Try.underlying44 _ _) ?_)
    go_ret
    exact ⟨rfl, HFIN.out Wb cur2 HB2.out HS2.out HT2.out, HK3.out⟩
  · go_wp2_with (obtain ⟨Wc, cur3, hr3, hfin3⟩ := HCLR.out Wb cur2 HB2.out HS2.out (some ⟨g, (p + m + (r + 1)) * 2, none⟩) (c - (p + m + (r + 1))) _ (.inr rfl); with_reducible refine wpList_run1 rfl (.tmp 110) _ .clear Builtin.clear_ bclear rfl (.slice (some ⟨g, (p + m + (r + 1)) * 2, none⟩) (n - (p + m + (r + 1))) (c - (p + m + (r + 1)))) rfl _ _ hr3 ?_)
    go_ret
    obtain ⟨f1, f2, f3, f4⟩ := Hid.out hfin3
    exact ⟨rfl, HFIN.out Wc cur3 f1 (f2.trans HS2.out) (f3.trans HT2.out), HK3.out.trans f4 (fun _ _ h => h)⟩
end Go.Proofs.Ythjlbbbkghigfaa
