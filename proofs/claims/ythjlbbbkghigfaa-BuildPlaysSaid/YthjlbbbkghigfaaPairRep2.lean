/- ranges: slices.Replace at pairs, one by two. -/
import Derived.Test.YthjlbbbkghigfaaPairRep
namespace Go.Proofs.Ythjlbbbkghigfaa
open Go.RowKit
set_option linter.unusedVariables false
set_option linter.unusedSimpArgs false

theorem splice_back (L B C : List Value) (a b : Nat) (hb : B.length = b) (hf : a + b + C.length ≤ L.length) : (splice (splice L (a + b) C) a B).take (a + b + C.length) = L.take a ++ B ++ C := by
  have e1 : (splice L (a + b) C).take a = L.take a := by
    unfold splice
    rw [List.take_append_of_le_length (by rw [List.length_take]; omega), List.take_take, Nat.min_eq_left (by omega)]
  have e2 : (splice L (a + b) C).drop (a + b) = C ++ L.drop (a + b + C.length) := by
    unfold splice
    rw [List.drop_left' (by rw [List.length_take]; omega)]
  rw [show splice (splice L (a + b) C) a B = (splice L (a + b) C).take a ++ (B ++ (splice L (a + b) C).drop (a + b)) from by rw [← hb]; rfl, e1, e2, ← List.append_assoc, ← List.append_assoc]
  exact List.take_left' (by simp only [List.length_append, List.length_take, hb]; omega)
theorem splice_on (L B C : List Value) (a b : Nat) (hb : B.length = b) (hf : a + b + C.length ≤ L.length) : (splice (splice L a B) (a + b) C).take (a + b + C.length) = L.take a ++ B ++ C := by
  have h1 : a + B.length ≤ L.length := by omega
  rw [splice_take _ _ _ (by rw [splice_len _ _ _ h1]; omega)]
  subst hb
  rw [splice_take _ _ _ h1]
theorem apart_two (w : World) (vb g o la ca nc : Nat) (xs cur : Array Value) (hg : Blk w g cur 46) (hv : Blk w vb xs 46) (hne : g ≠ vb) (hc : xs.size ≠ 0) :
    (callFunc 53 #[.slice (some ⟨g, o, none⟩) la ca, .slice (some ⟨vb, 0, none⟩) 2 nc]).run Try.prog w = .ok (.value (.bool false)) w := by
  have hs1 : w.shape? g = some (46, cur.size) := by unfold Blk at hg; simp [World.shape?, hg]
  have hs2 : w.shape? vb = some (46, xs.size) := by unfold Blk at hv; simp [World.shape?, hv]
  rw [run_callFunc_extern Try.func53 (by kernel_rfl) (by kernel_rfl) (by kernel_rfl) (e := Extern.SlicesOverlaps.overlaps #[44, 44] #[4]) (by kernel_rfl),
    Lib.run_overlaps_apart w 44 4 46 Try.underlying44 2 sizeOf_pair ⟨g, o, none⟩ ⟨vb, 0, none⟩ la ca 2 nc hne 46 46 cur.size xs.size hs1 hs2 hc (hg.frozen o) (hg.frozen _)]
  rfl
/-- what the three parts of the row are -/
theorem rep_cells (l new : List (Int × Int)) (p q : Nat) : (rep l p q new).flatMap pairCells = (l.take p).flatMap pairCells ++ new.flatMap pairCells ++ (l.drop q).flatMap pairCells := by unfold rep; rw [List.flatMap_append, List.flatMap_append]
/-- what lies behind q, read in place -/
theorem reads_behind {w : World} {base g n c q : Nat} {l : List (Int × Int)} (hl : l.length = n) (hq : q ≤ n) (h : w.ownsRow base 46 2 (.slice (some ⟨g, 0, none⟩) n c) n (l.flatMap pairCells)) : Reads w 2 (.slice (some ⟨g, q * 2, none⟩) (n - q) (c - q)) (n - q) ((l.drop q).flatMap pairCells) := by
  obtain ⟨cur, hb, hg, hmc, hcm, hcs, htk⟩ := ownsRow_cur h
  refine ⟨by rw [flatMap_length pairCells_len, List.length_drop, hl], _, _, rfl, by omega, by omega, fun ha => (by cases ha), fun a ha _ => (by cases ha; exact ⟨rfl, hg.lt⟩), fun j u hu => ⟨_, rfl, ?_⟩⟩
  refine hg.cell (q * 2 + j) ?_
  have e1 : cur[q * 2 + j]? = cur.toList[q * 2 + j]? := by simp
  rw [e1]
  have e2 : (cur.toList.take (n * 2))[q * 2 + j]? = some u := by
    rw [htk]
    have e3 := flat_drop l q (by omega)
    have e4 : ((l.flatMap pairCells).drop (q * 2))[j]? = some u := by rw [e3]; exact hu
    rwa [List.getElem?_drop] at e4
  rw [List.getElem?_take] at e2
  split at e2
  · exact e2
  · cases e2

set_option maxRecDepth 100000 in
set_option maxHeartbeats 1000000 in
/-- the last one by two -/
theorem replace_two_end (base g n c p vb nc : Nat) (l new : List (Int × Int)) (w : World) (hl : l.length = n) (hp : p + 1 = n) (hbig : n ≤ 1000000) (hbase : base ≤ w.heap.size)
    (h : w.ownsRow base 46 2 (.slice (some ⟨g, 0, none⟩) n c) n (l.flatMap pairCells)) (hr : Reads w 2 (.slice (some ⟨vb, 0, none⟩) 2 nc) 2 (new.flatMap pairCells)) :
    Calls Try.prog 50 #[.slice (some ⟨g, 0, none⟩) n c, .int .i64 p, .int .i64 n, .slice (some ⟨vb, 0, none⟩) 2 nc] w fun e w' => ∃ A c', e = .returned (.slice A (p + 2) c') ∧
      w'.ownsRow base 46 2 (.slice A (p + 2) c') (p + 2) ((rep l p n new).flatMap pairCells) ∧ Keep (fun k => k = g) w w' ∧ (∀ k, (Value.slice A (p + 2) c').ownBlock = some k → k = g ∨ w.heap.size ≤ k) := by
  obtain ⟨cur, hb, hg, hmc, hcm, hcs, htk⟩ := ownsRow_cur h
  obtain ⟨i0, hi, hz0, hz1, hz2⟩ := info_parts info_pair
  have hcl : cur.toList.length = c * 2 := by simpa using hcs
  have ho : w.ownsRow base 46 2 (.slice (some ⟨g, 0, none⟩) p c) p ((l.take p).flatMap pairCells) :=
    ownsRow_of cur hb hg (by omega) hcm hcs (by rw [← flat_take l p (by omega), ← htk, List.take_take, Nat.min_eq_left (by omega)]) (by rw [flatMap_length pairCells_len, List.length_take, Nat.min_eq_left (by omega)])
  have HP : Hid ((rep l p n new).flatMap pairCells = (l.take p).flatMap pairCells ++ new.flatMap pairCells) := by
    show _ = _
    rw [rep_end l p n new (by omega), List.flatMap_append]
  have HO := Lib.hid ho
  have HL := Lib.hid hr.len
  have HN := Lib.hid hr.news
  have H1 := Lib.hid (pairs_one new)
  have i1 : (0 : Int) ≤ (p : Int) := by omega
  have i2 : (p : Int) ≤ (n : Int) := by omega
  have i3 : (n : Int) ≤ (c : Int) := by omega
  have i4 : ((p : Int) == (n : Int)) = false := by rw [beq_eq_false_iff_ne]; omega
  have i5 : (p : Int) ≤ (c : Int) := by omega
  have i6 : ¬ ((p : Int) + 2 < (n : Int)) := by omega
  have i7 : ¬ (c = p) := by omega
  clear h hr hg hmc hcm hcs htk hcl ho hl
  go_enter Try.func50, Try.ntmps50
  go_wp2_with (refine wpList_app rfl (.tmp 32) (.tmp 33) 44 rfl base 46 i0 (.agg #[.int .i64 0, .int .i64 0]) 2 16 Try.underlying44 hi hz0 hz1 hz2 rfl (.slice (some ⟨g, 0, none⟩) p c) p _ rfl HO.out ⟨vb, 0, none⟩ 2 nc (new.flatMap pairCells) rfl HL.out HN.out H1.out (by unfold maxLen; omega) (by omega) hbase ?_; rintro A2 c2 w2 hown2 hk2 hg2 -; have HO2 := Lib.hid hown2; have HK2 := Lib.hid hk2; have HG2 := Lib.hid hg2; clear hown2 hk2 hg2)
  go_ret
  exact ⟨A2, c2, rfl, by rw [HP.out]; exact HO2.out, HK2.out.mono (fun k _ h => by cases h; rfl), fun k hk => (HG2.out k hk).imp (fun e => by cases e; rfl) id⟩

set_option maxRecDepth 100000 in
set_option maxHeartbeats 2000000 in
/-- one by two, where there is room -/
theorem replace_two_room (base g n c p q r N vb nc : Nat) (xs : Array Value) (l new : List (Int × Int)) (w : World) (hl : l.length = n) (hpq : p + 1 = q) (hq : q + (r + 1) = n) (hN : n + 1 = N) (hc : N ≤ c) (hbig : n ≤ 1000000)
    (h : w.ownsRow base 46 2 (.slice (some ⟨g, 0, none⟩) n c) n (l.flatMap pairCells)) (hv : Blk w vb xs 46) (hvs : xs.size ≠ 0) (hne : g ≠ vb) (hr : Reads w 2 (.slice (some ⟨vb, 0, none⟩) 2 nc) 2 (new.flatMap pairCells)) :
    Calls Try.prog 50 #[.slice (some ⟨g, 0, none⟩) n c, .int .i64 p, .int .i64 q, .slice (some ⟨vb, 0, none⟩) 2 nc] w fun e w' => e = .returned (.slice (some ⟨g, 0, none⟩) N c) ∧
      w'.ownsRow base 46 2 (.slice (some ⟨g, 0, none⟩) N c) N ((rep l p q new).flatMap pairCells) ∧ Keep (fun k => k = g) w w' := by
  have hrb := reads_behind (q := q) hl (by omega) h
  obtain ⟨cur, hb, hg, hmc, hcm, hcs, htk⟩ := ownsRow_cur h
  have hcl : cur.toList.length = c * 2 := by simpa using hcs
  have hbl : (new.flatMap pairCells).length = 4 := hr.len
  have hdl : ((l.drop q).flatMap pairCells).length = (n - q) * 2 := hrb.len
  have hap := fun (j : Nat) => apart_two (w.drewN j) vb g ((p + 2) * 2) (N - (p + 2)) (c - (p + 2)) nc xs cur (hg.drewN j) (hv.drewN j) hne hvs
  have hcp1 : ∀ (W : World), Blk W g cur 46 → Reads W 2 (.slice (some ⟨g, q * 2, none⟩) (n - q) (c - q)) (n - q) ((l.drop q).flatMap pairCells) → ∃ W1 cur1, (Builtin.copy_ #[44, 44] 3 #[.slice (some ⟨g, (p + 2) * 2, none⟩) (N - (p + 2)) (c - (p + 2)), .slice (some ⟨g, q * 2, none⟩) (n - q) (c - q)]).run Try.prog W = .ok (goInt ((n - q : Nat) : Int)) W1 ∧ Hid (Blk W1 g cur1 46) ∧ Hid (cur1 = (splice cur.toList ((p + 2) * 2) ((l.drop q).flatMap pairCells)).toArray) ∧ Hid (Keep (fun k => k = g) W W1) := fun W hW hR => by
    obtain ⟨W1, h1, h2, h3⟩ := run_cpy (P := Try.prog) W 44 44 3 46 g ((p + 2) * 2) (N - (p + 2)) (c - (p + 2)) cur 46 2 Try.underlying44 infos_pair hW _ (n - q) (c - q) _ hR (pairs_one _) (by omega) (by rw [hdl]; omega)
    exact ⟨W1, _, h1, h2, rfl, h3⟩
  have hf1 : (p + 2) * 2 + ((l.drop q).flatMap pairCells).length ≤ cur.toList.length := by rw [hdl, hcl]; omega
  have hcp2 : ∀ (W : World) (cur1 : Array Value), Blk W g cur1 46 → cur1 = (splice cur.toList ((p + 2) * 2) ((l.drop q).flatMap pairCells)).toArray → Reads W 2 (.slice (some ⟨vb, 0, none⟩) 2 nc) 2 (new.flatMap pairCells) → ∃ W2 cur2, (Builtin.copy_ #[44, 44] 3 #[.slice (some ⟨g, p * 2, none⟩) (N - p) (c - p), .slice (some ⟨vb, 0, none⟩) 2 nc]).run Try.prog W = .ok (goInt ((2 : Nat) : Int)) W2 ∧
      Hid (Blk W2 g cur2 46) ∧ Hid (cur2.size = c * 2) ∧ Hid (cur2.toList.take (N * 2) = (rep l p q new).flatMap pairCells) ∧ Hid (Keep (fun k => k = g) W W2) := fun W cur1 hW e hR => by
    have h1l : cur1.toList.length = c * 2 := by rw [e]; show (splice _ _ _).length = _; rw [splice_len _ _ _ hf1, hcl]
    have hf2 : p * 2 + (new.flatMap pairCells).length ≤ cur1.toList.length := by rw [hbl, h1l]; omega
    obtain ⟨W2, h1, h2, h3⟩ := run_cpy (P := Try.prog) W 44 44 3 46 g (p * 2) (N - p) (c - p) cur1 46 2 Try.underlying44 infos_pair hW _ 2 nc _ hR (pairs_one _) (by omega) (by simpa using hf2)
    refine ⟨W2, _, h1, h2, ?_, ?_, h3⟩
    · refine Lib.hid ?_
      rw [List.size_toArray, splice_len _ _ _ hf2, h1l]
    · refine Lib.hid ?_
      rw [rep_cells, ← flat_take l p (by omega), ← htk, List.take_take, Nat.min_eq_left (by omega), e]
      have hs := splice_back cur.toList (new.flatMap pairCells) ((l.drop q).flatMap pairCells) (p * 2) 4 hbl (by rw [hdl, hcl]; omega)
      rw [hdl, show p * 2 + 4 + (n - q) * 2 = N * 2 by omega, show p * 2 + 4 = (p + 2) * 2 by omega] at hs
      exact hs
  have HFIN : Hid (∀ (W : World) (cur3 : Array Value), Blk W g cur3 46 → cur3.size = c * 2 → cur3.toList.take (N * 2) = (rep l p q new).flatMap pairCells → W.ownsRow base 46 2 (.slice (some ⟨g, 0, none⟩) N c) N ((rep l p q new).flatMap pairCells)) := fun W cur3 hW h2 h3 =>
    ownsRow_of cur3 hb hW (by omega) hcm h2 h3 (by
      have e1 : cur3.toList.length = c * 2 := by simpa using h2
      rw [← h3, List.length_take, e1]; omega)
  have HG := Lib.hid hg
  have HRB := Lib.hid hrb
  have HRN := Lib.hid hr
  have HAP := Lib.hid hap
  have HCP1 := Lib.hid hcp1
  have HCP2 := Lib.hid hcp2
  have HNE := Lib.hid hne
  have i1 : (0 : Int) ≤ (p : Int) := by omega
  have i2 : (p : Int) ≤ (q : Int) := by omega
  have i3 : (q : Int) ≤ (n : Int) := by omega
  have i3' : (n : Int) ≤ (c : Int) := by omega
  have i3'' : (q : Int) ≤ (c : Int) := by omega
  have i4 : ((p : Int) == (q : Int)) = false := by rw [beq_eq_false_iff_ne]; omega
  have i4' : ((q : Int) == (n : Int)) = false := by rw [beq_eq_false_iff_ne]; omega
  have i5 : (p : Int) ≤ (c : Int) := by omega
  have i5' : (p : Int) ≤ (n : Int) := by omega
  have i6 : ¬ (c = p) := by omega
  have i7 : ¬ (c = q) := by omega
  have i8 : ¬ (c = p + 2) := by omega
  clear h hr hg hmc hcm hcs htk hcl hbl hdl hap hcp1 hcp2 hf1 hrb hl hb hv hvs hne
  go_enter Try.func50, Try.ntmps50
  go_wp2_with fail
  have W1 : IntKind.i64.wrap ((p : Int) + 2) = (p : Int) + 2 := IntWalk.i64_in _ (by omega)
  have W2 : IntKind.i64.wrap ((p : Int) + 2 + ((n - q : Nat) : Int)) = (N : Int) := by rw [IntWalk.i64_in _ (by omega)]; omega
  go_quiet (fail)
  clear W1 W2
  have j1 : (N : Int) ≤ (c : Int) := by omega
  have j2 : ¬ ((c : Int) < (N : Int)) := by omega
  have j3 : ¬ ((p : Int) + 2 ≤ (q : Int)) := by omega
  have j4 : (p : Int) ≤ (N : Int) := by omega
  have j5 : ((p : Int) + 2).toNat = p + 2 := by omega
  have j6 : (p : Int) + 2 ≤ (N : Int) := by omega
  have j7 : (0 : Int) ≤ (N : Int) := by omega
  have j8 : (0 : Int) ≤ (p : Int) + 2 := by omega
  have hq1 := HAP.out nq
  clear HAP
  go_wp2_with fail
  obtain ⟨Wa, cur1, hr1, HB1, HE1, HK1⟩ := HCP1.out (w.drewN nq).drew (HG.out.drewN nq).drew ((HRB.out.drewN nq).drewN 1)
  have HR1 := Lib.hid hr1
  clear hr1 hq1
  have W1 : IntKind.i64.wrap ((p : Int) + 2) = (p : Int) + 2 := IntWalk.i64_in _ (by omega)
  go_region_held3 (fun _ => True) (trivial)
    (first
      | (refine step_run rfl (.tmp 126) (.tmp 129) _ _ .copy Builtin.copy_ bcopy rfl (.slice (some ⟨g, (p + 2) * 2, none⟩) (N - (p + 2)) (c - (p + 2))) (.slice (some ⟨g, q * 2, none⟩) (n - q) (c - q)) rfl rfl _ _ HR1.out ?_))
  clear W1
  have HRV : Hid (Reads Wa 2 (.slice (some ⟨vb, 0, none⟩) 2 nc) 2 (new.flatMap pairCells)) := ((HRN.out.drewN nq).drewN 1).keep HK1.out (fun k hk _ e => HNE.out (by cases hk; exact e.symm))
  obtain ⟨Wb, cur2, hr2, HB2, HS2, HT2, HK2⟩ := HCP2.out Wa cur1 HB1.out HE1.out HRV.out
  have HR2 := Lib.hid hr2
  clear hr2
  go_wp2_with ((refine wpList_run rfl (.tmp 133) (.tmp 134) _ _ .copy Builtin.copy_ bcopy rfl (.slice (some ⟨g, p * 2, none⟩) (N - p) (c - p)) (.slice (some ⟨vb, 0, none⟩) 2 nc) rfl rfl _ _ HR2.out ?_))
  go_ret
  exact ⟨rfl, HFIN.out Wb cur2 HB2.out HS2.out HT2.out, (((Keep.refl (fun k => k = g) w).drewN nq).drewN 1).trans (HK1.out.trans HK2.out (fun _ _ h => h)) (fun _ _ h => h)⟩

set_option maxRecDepth 100000 in
set_option maxHeartbeats 2000000 in
/-- one by two, where there is no room -/
theorem replace_two_grow (base g n p q r N vb nc : Nat) (l new : List (Int × Int)) (w : World) (hl : l.length = n) (hpq : p + 1 = q) (hq : q + (r + 1) = n) (hN : n + 1 = N) (hbig : n ≤ 1000000) (hbase : base ≤ w.heap.size)
    (h : w.ownsRow base 46 2 (.slice (some ⟨g, 0, none⟩) n n) n (l.flatMap pairCells)) (hr : Reads w 2 (.slice (some ⟨vb, 0, none⟩) 2 nc) 2 (new.flatMap pairCells)) :
    Calls Try.prog 50 #[.slice (some ⟨g, 0, none⟩) n n, .int .i64 p, .int .i64 q, .slice (some ⟨vb, 0, none⟩) 2 nc] w fun e w' => ∃ G c', w.heap.size ≤ G ∧ e = .returned (.slice (some ⟨G, 0, none⟩) N c') ∧
      w'.ownsRow base 46 2 (.slice (some ⟨G, 0, none⟩) N c') N ((rep l p q new).flatMap pairCells) ∧ Below w.heap.size w w' := by
  have hrb := reads_behind (q := q) hl (by omega) h
  obtain ⟨cur, hb, hg, hmc, hcm, hcs, htk⟩ := ownsRow_cur h
  obtain ⟨i0, hi, hz0, hz1, hz2⟩ := info_parts info_pair
  have hgl := hg.lt
  have hbl : (new.flatMap pairCells).length = 4 := hr.len
  have hdl : ((l.drop q).flatMap pairCells).length = (n - q) * 2 := hrb.len
  obtain ⟨old, hold⟩ : ∃ old, old = (l.take p).flatMap pairCells := ⟨_, rfl⟩
  have hol : old.length = p * 2 := by rw [hold, flatMap_length pairCells_len, List.length_take, Nat.min_eq_left (by omega)]
  have hcello : ∀ (W : World), Blk W g cur 46 → ∀ j u, old[j]? = some u → W.cell? (Addr.add ⟨g, 0, none⟩ j) = some u := fun W hW j u hu => by
    have hj : j < old.length := (List.getElem?_eq_some_iff.1 hu).1
    have e : (⟨g, 0, none⟩ : Addr).add j = ⟨g, j, none⟩ := by unfold Addr.add; split <;> simp_all
    rw [e]
    refine hW.cell j ?_
    have e1 : cur[j]? = cur.toList[j]? := by simp
    rw [e1]
    have e2 : (cur.toList.take (n * 2))[j]? = some u := by
      rw [htk, ← List.take_append_drop p l, List.flatMap_append, ← hold, List.getElem?_append_left hj]; exact hu
    rw [List.getElem?_take] at e2
    split at e2
    · exact e2
    · cases e2
  obtain ⟨k, hk⟩ : ∃ k, p + k = N := ⟨N - p, by omega⟩
  have hzg0 := fun (j : Nat) => run_append_zg (P := Try.prog) (w.drewN j) 44 3 44 46 i0 _ .i64 .i64 Try.underlying44 Try.underlying3 hi hz0 hz1 rfl ⟨g, 0, none⟩ p n old hol (hcello _ (hg.drewN j)) k (by omega) (by decide) (by omega) (by omega) (by rw [hz2]; decide)
  have hzg : ∀ j : Nat, ∃ c' cur0 W0, N ≤ c' ∧ Hid (cur0.size = c' * 2) ∧ Hid (cur0.toList.take (p * 2) = old) ∧ Hid (c' ≤ maxLen) ∧
      (Builtin.append_ #[44, 3] 44 #[.slice (some ⟨g, 0, none⟩) p n, .int .i64 ((N : Int) - (p : Int))]).run Try.prog (w.drewN j) = .ok (.slice (some ⟨w.heap.size, 0, none⟩) N c') W0 ∧ Hid (Blk W0 w.heap.size cur0 46) ∧ Hid (Below w.heap.size w W0) := fun j => by
    obtain ⟨c', rest, hc1, hc2, hrl, hzg⟩ := hzg0 j
    rw [hk] at hzg hc1
    have e9 : ((k : Nat) : Int) = (N : Int) - (p : Int) := by omega
    rw [e9] at hzg
    refine ⟨c', (old ++ rest).toArray, _, hc1, ?_, ?_, hc2, hzg, ?_, ?_⟩
    · refine Lib.hid ?_
      rw [List.size_toArray, List.length_append, hol, hrl]; omega
    · exact Lib.hid (List.take_left' hol)
    · exact heap_alloc_new (w.drewN j).drew _
    · exact (below_drewN (below_drewN (Below.refl _ w) j) 1).alloc (Nat.le_refl _) _
  obtain ⟨G, hG⟩ : ∃ G, G = w.heap.size := ⟨_, rfl⟩
  rw [← hG] at hzg
  have hcp1 : ∀ (W : World) (c' : Nat) (cur0 : Array Value), N ≤ c' → Blk W G cur0 46 → cur0.size = c' * 2 → Reads W 2 (.slice (some ⟨vb, 0, none⟩) 2 nc) 2 (new.flatMap pairCells) → ∃ W1 cur1, (Builtin.copy_ #[44, 44] 3 #[.slice (some ⟨G, p * 2, none⟩) (N - p) (c' - p), .slice (some ⟨vb, 0, none⟩) 2 nc]).run Try.prog W = .ok (goInt ((2 : Nat) : Int)) W1 ∧ Hid (Blk W1 G cur1 46) ∧ Hid (cur1 = (splice cur0.toList (p * 2) (new.flatMap pairCells)).toArray) ∧ Hid (Keep (fun k => k = G) W W1) := fun W c' cur0 hNc hW hs hR => by
    obtain ⟨W1, h1, h2, h3⟩ := run_cpy (P := Try.prog) W 44 44 3 46 G (p * 2) (N - p) (c' - p) cur0 46 2 Try.underlying44 infos_pair hW _ 2 nc _ hR (pairs_one _) (by omega) (by rw [hbl, hs]; omega)
    exact ⟨W1, _, h1, h2, rfl, h3⟩
  have hcp2 : ∀ (W : World) (c' : Nat) (cur0 cur1 : Array Value), N ≤ c' → cur0.size = c' * 2 → cur0.toList.take (p * 2) = old → Blk W G cur1 46 → cur1 = (splice cur0.toList (p * 2) (new.flatMap pairCells)).toArray → Reads W 2 (.slice (some ⟨g, q * 2, none⟩) (n - q) (n - q)) (n - q) ((l.drop q).flatMap pairCells) → ∃ W2 cur2, (Builtin.copy_ #[44, 44] 3 #[.slice (some ⟨G, (p + 2) * 2, none⟩) (N - (p + 2)) (c' - (p + 2)), .slice (some ⟨g, q * 2, none⟩) (n - q) (n - q)]).run Try.prog W = .ok (goInt ((n - q : Nat) : Int)) W2 ∧
      Hid (Blk W2 G cur2 46) ∧ Hid (cur2.size = c' * 2) ∧ Hid (cur2.toList.take (N * 2) = (rep l p q new).flatMap pairCells) ∧ Hid (Keep (fun k => k = G) W W2) := fun W c' cur0 cur1 hNc hs hto hW e hR => by
    have h0l : cur0.toList.length = c' * 2 := by simpa using hs
    have hf1 : p * 2 + (new.flatMap pairCells).length ≤ cur0.toList.length := by rw [hbl, h0l]; omega
    have h1l : cur1.toList.length = c' * 2 := by rw [e]; show (splice _ _ _).length = _; rw [splice_len _ _ _ hf1, h0l]
    have hf2 : (p + 2) * 2 + ((l.drop q).flatMap pairCells).length ≤ cur1.toList.length := by rw [hdl, h1l]; omega
    obtain ⟨W2, h1, h2, h3⟩ := run_cpy (P := Try.prog) W 44 44 3 46 G ((p + 2) * 2) (N - (p + 2)) (c' - (p + 2)) cur1 46 2 Try.underlying44 infos_pair hW _ (n - q) (n - q) _ hR (pairs_one _) (by omega) (by simpa using hf2)
    refine ⟨W2, _, h1, h2, ?_, ?_, h3⟩
    · refine Lib.hid ?_
      rw [List.size_toArray, splice_len _ _ _ hf2, h1l]
    · refine Lib.hid ?_
      rw [rep_cells, ← hold, ← hto, e]
      have hs := splice_on cur0.toList (new.flatMap pairCells) ((l.drop q).flatMap pairCells) (p * 2) 4 hbl (by rw [hdl, h0l]; omega)
      rw [hdl, show p * 2 + 4 + (n - q) * 2 = N * 2 by omega, show p * 2 + 4 = (p + 2) * 2 by omega] at hs
      exact hs
  have hbG : base ≤ G := by omega
  have HFIN : Hid (∀ (W : World) (c' : Nat) (cur3 : Array Value), N ≤ c' → c' ≤ maxLen → Blk W G cur3 46 → cur3.size = c' * 2 → cur3.toList.take (N * 2) = (rep l p q new).flatMap pairCells → W.ownsRow base 46 2 (.slice (some ⟨G, 0, none⟩) N c') N ((rep l p q new).flatMap pairCells)) := fun W c' cur3 hNc hcm' hW h2 h3 =>
    ownsRow_of cur3 hbG hW hNc hcm' h2 h3 (by
      have e1 : cur3.toList.length = c' * 2 := by simpa using h2
      rw [← h3, List.length_take, e1]; omega)
  have hgG : g < G := by omega
  have hvG : vb < G := by rw [hG]; exact hr.lt vb rfl (by omega)
  have HGG := Lib.hid hG
  have HRB := Lib.hid hrb
  have HRN := Lib.hid hr
  have HZG := Lib.hid hzg
  have HCP1 := Lib.hid hcp1
  have HCP2 := Lib.hid hcp2
  have i1 : (0 : Int) ≤ (p : Int) := by omega
  have i2 : (p : Int) ≤ (q : Int) := by omega
  have i3 : (q : Int) ≤ (n : Int) := by omega
  have i4 : ((p : Int) == (q : Int)) = false := by rw [beq_eq_false_iff_ne]; omega
  have i4' : ((q : Int) == (n : Int)) = false := by rw [beq_eq_false_iff_ne]; omega
  have i5' : (p : Int) ≤ (n : Int) := by omega
  have i6 : ¬ (n = p) := by omega
  have i7 : ¬ (n = q) := by omega
  clear h hr hg hmc hcm hcs htk hbl hdl hcp1 hcp2 hrb hl hb hol hold hcello hzg0 hzg hG hgl hbase hbG
  go_enter Try.func50, Try.ntmps50
  go_wp2_with fail
  have W1 : IntKind.i64.wrap ((p : Int) + 2) = (p : Int) + 2 := IntWalk.i64_in _ (by omega)
  have W2 : IntKind.i64.wrap ((p : Int) + 2 + ((n - q : Nat) : Int)) = (N : Int) := by rw [IntWalk.i64_in _ (by omega)]; omega
  go_quiet (fail)
  clear W1 W2
  have j1 : (n : Int) < (N : Int) := by omega
  obtain ⟨c', cur0, W0, hNc, HS0, HT0, HCM, hr0, HB0, HK00⟩ := HZG.out nq
  have HK0 : Hid (Below w.heap.size w W0) := by have h := HK00.out; rw [HGG.out] at h; exact h
  clear HK00
  have HR0 := Lib.hid hr0
  clear hr0
  have HRV0 : Hid (Reads W0 2 (.slice (some ⟨vb, 0, none⟩) 2 nc) 2 (new.flatMap pairCells)) := HRN.out.keep (Keep.none HK0.out) (fun _ _ _ => id)
  obtain ⟨Wa, cur1, hr1, HB1, HE1, HK1⟩ := HCP1.out W0 c' cur0 hNc HB0.out HS0.out HRV0.out
  have HR1 := Lib.hid hr1
  clear hr1
  have HRB1 : Hid (Reads Wa.drew 2 (.slice (some ⟨g, q * 2, none⟩) (n - q) (n - q)) (n - q) ((l.drop q).flatMap pairCells)) := ((HRB.out.keep (Keep.none HK0.out) (fun _ _ _ => id)).keep HK1.out (fun k hk _ e => Nat.ne_of_lt hgG (by cases hk; exact e))).drewN 1
  obtain ⟨Wb, cur2, hr2, HB2, HS2, HT2, HK2⟩ := HCP2.out Wa.drew c' cur0 cur1 hNc HS0.out HT0.out HB1.out.drew HE1.out HRB1.out
  have HR2 := Lib.hid hr2
  clear hr2
  have j2 : (p : Int) ≤ (N : Int) := by omega
  have j3 : (N : Int) ≤ (c' : Int) := by omega
  have j5 : ((p : Int) + 2).toNat = p + 2 := by omega
  have j6 : (p : Int) + 2 ≤ (N : Int) := by omega
  have j7 : (0 : Int) ≤ (N : Int) := by omega
  have j8 : (0 : Int) ≤ (p : Int) + 2 := by omega
  have j9 : ¬ (c' = p) := by omega
  have j10 : ¬ (c' = p + 2) := by omega
  go_wp2_with (first
    | (refine wpList_run rfl (.tmp 63) (.tmp 66) _ _ .append Builtin.append_ bappend rfl (.slice (some ⟨g, 0, none⟩) p n) (.int .i64 ((N : Int) - (p : Int))) rfl rfl _ _ HR0.out ?_)
    | (refine wpList_run rfl (.tmp 70) (.tmp 71) _ _ .copy Builtin.copy_ bcopy rfl (.slice (some ⟨G, p * 2, none⟩) (N - p) (c' - p)) (.slice (some ⟨vb, 0, none⟩) 2 nc) rfl rfl _ _ HR1.out ?_))
  have W1 : IntKind.i64.wrap ((p : Int) + 2) = (p : Int) + 2 := IntWalk.i64_in _ (by omega)
  go_region_held3 (fun _ => True) (trivial)
    (first
      | (refine step_run rfl (.tmp 78) (.tmp 81) _ _ .copy Builtin.copy_ bcopy rfl (.slice (some ⟨G, (p + 2) * 2, none⟩) (N - (p + 2)) (c' - (p + 2))) (.slice (some ⟨g, q * 2, none⟩) (n - q) (n - q)) rfl rfl _ _ HR2.out ?_))
  clear W1
  go_wp2
  go_ret
  refine ⟨G, c', Nat.le_of_eq HGG.out.symm, rfl, HFIN.out Wb c' cur2 hNc HCM.out HB2.out HS2.out HT2.out, ?_⟩
  exact bkeep (bkeep HK0.out HK1.out (Nat.le_refl _) (fun k hk => Nat.le_of_eq (HGG.out.symm.trans hk.symm))) (((Keep.refl (fun k => k = G) Wa).drewN 1).trans HK2.out (fun _ _ h => h)) (Nat.le_refl _) (fun k hk => Nat.le_of_eq (HGG.out.symm.trans hk.symm))
end Go.Proofs.Ythjlbbbkghigfaa
