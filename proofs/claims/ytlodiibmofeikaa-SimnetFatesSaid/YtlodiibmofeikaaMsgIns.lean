/- pipe: slices.Delete, slices.Insert at messages. -/
import Derived.Test.YtlodiibmofeikaaMsg
import Derived.Test.YtlodiibmofeikaaIns
import Derived.Deep.RegionHeld3
namespace Go.Proofs.Ytlodiibmofeikaa
open Go.RowKit
set_option linter.unusedVariables false
set_option linter.unusedSimpArgs false

theorem zsize_msg : ∀ w, (zeroValue 102).run Try.prog w = .ok (.agg #[.int .i64 0, .slice none 0 0]) w := Try.zeroValue102
theorem cells1_msg (l : List Msg) (h : ∀ x : Msg, ∀ v ∈ msgCells x, v.oneCell' = true) : ∀ v ∈ l.flatMap msgCells, v.oneCell' = true := by
  intro v hv
  obtain ⟨x, -, hv⟩ := List.mem_flatMap.1 hv
  exact h x v hv
set_option maxRecDepth 100000 in
set_option maxHeartbeats 400000 in
/-- slices.Delete of one element: within the row. -/
theorem delete_msg (base g m p c : Nat) (l : List Msg) (w : World) (hl : l.length = m + 1) (hp : p ≤ m) (h1 : ∀ x : Msg, ∀ v ∈ msgCells x, v.oneCell' = true) (hbig : m ≤ 1000000000)
    (h : w.ownsRow base 102 2 (.slice (some ⟨g, 0, none⟩) (m + 1) c) (m + 1) (l.flatMap msgCells)) :
    Calls Try.prog 48 #[.slice (some ⟨g, 0, none⟩) (m + 1) c, .int .i64 p, .int .i64 ((p : Int) + 1)] w fun e w' => e = .returned (.slice (some ⟨g, 0, none⟩) m c) ∧
      w'.ownsRow base 102 2 (.slice (some ⟨g, 0, none⟩) m c) m ((erase1 l p).flatMap msgCells) ∧ Keep (fun k => k = g) w w' := by
  obtain ⟨cur, hb, hg, hmc, hcm, hcs, htk⟩ := ownsRow_cur h
  obtain ⟨i0, hi, hz0, hz1, hz2⟩ := info_parts info_msg
  have hll : (l.flatMap msgCells).length = (m + 1) * 2 := by rw [flatMap_length msgCells_len, hl]
  obtain ⟨news, hnews⟩ : ∃ news, news = (l.drop (p + 1)).flatMap msgCells := ⟨_, rfl⟩
  have hnl : news.length = (m - p) * 2 := by rw [hnews, flatMap_length msgCells_len, List.length_drop, hl]; congr 1; omega
  have hfit : p * 2 + news.length ≤ cur.size := by rw [hnl, hcs]; omega
  have hfitL : p * 2 + news.length ≤ cur.toList.length := by simpa using hfit
  obtain ⟨cur2, hcur2⟩ : ∃ cur2, cur2 = (splice cur.toList (p * 2) news).toArray := ⟨_, rfl⟩
  have hc2 : cur2.size = c * 2 := by rw [hcur2, List.size_toArray, splice_len _ _ _ hfitL]; simpa using hcs
  have ht2 : cur2.toList.take (m * 2) = (erase1 l p).flatMap msgCells := by
    unfold erase1
    rw [hcur2, show m * 2 = p * 2 + news.length by rw [hnl]; omega]
    show (splice cur.toList (p * 2) news).take _ = _
    rw [splice_take _ _ _ hfitL, List.flatMap_append, ← hnews]
    congr 1
    have e := congrArg (List.take (p * 2)) htk
    rw [List.take_take, Nat.min_eq_left (by omega)] at e
    rw [e, ← List.take_append_drop p l, List.flatMap_append, List.take_left' (by rw [flatMap_length msgCells_len, List.length_take]; congr 1; omega), List.take_append_drop]
  have happ : ∀ (W : World), Blk W g cur 102 → ∀ a k, (∀ j u, news[j]? = some u → W.cell? (Addr.add a j) = some u) → (Builtin.append_ #[96, 96] 96 #[.slice (some ⟨g, 0, none⟩) p c, .slice (some a) (m - p) k]).run Try.prog W = .ok (.slice (some ⟨g, 0, none⟩) m c) (W.setRow g cur2) := fun W hW a k hn => by
    have := run_append_in (P := Try.prog) W 96 96 102 i0 Try.underlying96 hi hz1 g p c cur hW a (m - p) k news hnl hn (by rw [hnews]; exact cells1_msg _ h1) (by omega) hfit
    rw [this, ← hcur2, show p + (m - p) = m by omega]
  have hcell : ∀ j u, news[j]? = some u → w.cell? ⟨g, (p + 1) * 2 + j, none⟩ = some u := fun j u hu => by
    refine ownsRow_cell h ?_
    have e1 : ((l.take (p + 1)).flatMap msgCells).length = (p + 1) * 2 := by rw [flatMap_length msgCells_len, List.length_take, Nat.min_eq_left (by omega)]
    have e2 : l.flatMap msgCells = (l.take (p + 1)).flatMap msgCells ++ news := by rw [hnews, ← List.flatMap_append, List.take_append_drop]
    rw [e2, List.getElem?_append_right (by rw [e1]; omega), e1, Nat.add_sub_cancel_left]
    exact hu
  obtain ⟨zs, hzs⟩ : ∃ zs, zs = (Builtin.zeroCells (.agg #[.int .i64 0, .slice none 0 0] : Value).cells 1).toList := ⟨_, rfl⟩
  have hze : (Builtin.zeroCells (.agg #[.int .i64 0, .slice none 0 0] : Value).cells 1).toList = [.int .i64 0, .slice none 0 0] := by kernel_rfl
  have hzl : zs.length = 2 := by rw [hzs, hze]; rfl
  have hzo : ∀ v ∈ zs, v.oneCell' = true := by rw [hzs, hze]; decide
  obtain ⟨cur3, hcur3⟩ : ∃ cur3, cur3 = (splice cur2.toList (m * 2) zs).toArray := ⟨_, rfl⟩
  have hfit3 : m * 2 + zs.length ≤ cur2.size := by rw [hzl, hc2]; omega
  have hclr : ∀ W : World, Blk W g cur2 102 → ∀ k ty, (Builtin.clear_ #[96] ty #[.slice (some ⟨g, m * 2, none⟩) 1 k]).run Try.prog W = .ok (.tuple #[]) (W.setRow g cur3) := fun W hW k ty => by
    rw [hcur3]
    exact run_clearN W 96 102 ty _ Try.underlying96 zsize_msg zs hzs.symm hzo g (m * 2) k cur2 102 hW hfit3
  have hc3 : cur3.size = c * 2 := by rw [hcur3, List.size_toArray, splice_len _ _ _ (by simpa using hfit3)]; simpa using hc2
  have ht3 : cur3.toList.take (m * 2) = (erase1 l p).flatMap msgCells := by
    rw [← ht2, hcur3]
    show (splice cur2.toList (m * 2) zs).take _ = _
    have e1 : cur2.toList.length = cur2.size := by simp
    unfold splice
    rw [List.take_left' (by rw [List.length_take]; omega)]
  have HFIN : Hid (∀ W : World, Blk W g cur3 102 → W.ownsRow base 102 2 (.slice (some ⟨g, 0, none⟩) m c) m ((erase1 l p).flatMap msgCells)) := fun W hW =>
    ownsRow_of cur3 hb hW (by omega) hcm hc3 ht3 (by have e1 : cur3.toList.length = cur3.size := (by simp); rw [← ht3, List.length_take]; omega)
  have HAPP := Lib.hid happ
  have HCELL : Hid (∀ j u, news[j]? = some u → w.drew.cell? (Addr.add ⟨g, (p + 1) * 2, none⟩ j) = some u) := fun j u hu => by
    have e : (⟨g, (p + 1) * 2, none⟩ : Addr).add j = ⟨g, (p + 1) * 2 + j, none⟩ := by unfold Addr.add; split <;> simp_all
    rw [e]; exact hcell j u hu
  have HCLR := Lib.hid hclr
  have HG := Lib.hid hg
  have HNIL : Hid (m = p → news = []) := fun e => List.eq_nil_of_length_eq_zero (by rw [hnl]; omega)
  have i1 : (0 : Int) ≤ (p : Int) := by omega
  have i2 : (p : Int) ≤ (p : Int) + 1 := by omega
  have i3 : (p : Int) + 1 ≤ (m : Int) + 1 := by omega
  have i4 : (m : Int) + 1 ≤ (c : Int) := by omega
  have i5 : ((p : Int) == (p : Int) + 1) = false := by rw [beq_eq_false_iff_ne]; omega
  have i6 : (p : Int) ≤ (c : Int) := by omega
  have i7 : ((p : Int) + 1).toNat = p + 1 := by omega
  have i8 : (0 : Int) ≤ (p : Int) + 1 := by omega
  have i9 : (p : Int) ≤ (m : Int) + 1 := by omega
  clear happ hcell hclr hg hzs hzl hzo hze hcur2 hcur3 hc2 hc3 ht2 ht3 hfit hfit3 hfitL hnl hnews hll htk hcs h hl
  go_enter Try.func48, Try.ntmps48
  go_wp2_with fail
  by_cases hcc : c = p + 1
  · obtain rfl : m = p := by omega
    obtain rfl : c = m + 1 := hcc
    have HAP0 : Hid ((Builtin.append_ #[96, 96] 96 #[.slice (some ⟨g, 0, none⟩) m (m + 1), .slice (some ⟨g, 0, none⟩) 0 0]).run Try.prog w.drew = .ok (.slice (some ⟨g, 0, none⟩) m (m + 1)) (w.drew.setRow g cur2)) := by
      have h := HAPP.out w.drew HG.out ⟨g, 0, none⟩ 0 (by rw [HNIL.out rfl]; intro j u hu; simp at hu)
      rw [Nat.sub_self] at h
      exact h
    go_region_held3 (fun _ => True) (trivial)
      (first
        | (refine step_run rfl (.tmp 22) (.tmp 25) _ _ .append Builtin.append_ bappend rfl (.slice (some ⟨g, 0, none⟩) m (m + 1)) (.slice (some ⟨g, 0, none⟩) 0 0) rfl rfl _ _ HAP0.out ?_; obtain ⟨W1, hW1⟩ : ∃ W1, W1 = w.drew.setRow g cur2 := ⟨_, rfl⟩; rw [← hW1]; have HW1 := Lib.hid hW1; clear hW1))
    have HB1 : Hid (Blk W1 g cur2 102) := by show Blk _ _ _ _; rw [HW1.out]; exact setRow_heap w.drew g cur _ 102 _ HG.out
    have HK1 : Hid (Keep (fun k => k = g) w W1) := by show Keep _ _ _; rw [HW1.out]; exact ((Keep.refl (fun k => k = g) w).drew).setRow (.inl rfl) _
    have k2 : ¬ (m + 1 = m) := by omega
    have k3 : (m : Int) ≤ (m : Int) + 1 := by omega
    have k4 : (0 : Int) ≤ (m : Int) := by omega
    go_wp2_with (with_reducible refine wpList_run1 rfl (.tmp 31) _ .clear Builtin.clear_ bclear rfl (.slice (some ⟨g, m * 2, none⟩) 1 1) rfl _ _ (HCLR.out W1 HB1.out 1 _) ?_)
    obtain ⟨W2, hW2⟩ : ∃ W2, W2 = W1.setRow g cur3 := ⟨_, rfl⟩
    rw [← hW2]
    have HW2 := Lib.hid hW2
    clear hW2
    go_wp2
    go_ret
    refine ⟨rfl, HFIN.out _ ?_, ?_⟩
    · rw [HW2.out]; exact setRow_heap W1 g cur2 _ 102 _ HB1.out
    · rw [HW2.out]; exact HK1.out.setRow (.inl rfl) _
  · have k1 : ¬ (c = p + 1) := hcc
    go_region_held3 (fun _ => True) (trivial)
      (first
        | (refine step_run rfl (.tmp 22) (.tmp 25) _ _ .append Builtin.append_ bappend rfl (.slice (some ⟨g, 0, none⟩) p c) (.slice (some ⟨g, (p + 1) * 2, none⟩) (m - p) (c - (p + 1))) rfl rfl _ _ (HAPP.out w.drew HG.out ⟨g, (p + 1) * 2, none⟩ (c - (p + 1)) HCELL.out) ?_; obtain ⟨W1, hW1⟩ : ∃ W1, W1 = w.drew.setRow g cur2 := ⟨_, rfl⟩; rw [← hW1]; have HW1 := Lib.hid hW1; clear hW1))
    have HB1 : Hid (Blk W1 g cur2 102) := by show Blk _ _ _ _; rw [HW1.out]; exact setRow_heap w.drew g cur _ 102 _ HG.out
    have HK1 : Hid (Keep (fun k => k = g) w W1) := by show Keep _ _ _; rw [HW1.out]; exact ((Keep.refl (fun k => k = g) w).drew).setRow (.inl rfl) _
    have k2 : ¬ (c = m) := by omega
    have k3 : (m : Int) ≤ (m : Int) + 1 := by omega
    have k4 : (0 : Int) ≤ (m : Int) := by omega
    go_wp2_with (with_reducible refine wpList_run1 rfl (.tmp 31) _ .clear Builtin.clear_ bclear rfl (.slice (some ⟨g, m * 2, none⟩) 1 (c - m)) rfl _ _ (HCLR.out W1 HB1.out (c - m) _) ?_)
    obtain ⟨W2, hW2⟩ : ∃ W2, W2 = W1.setRow g cur3 := ⟨_, rfl⟩
    rw [← hW2]
    have HW2 := Lib.hid hW2
    clear hW2
    go_wp2
    go_ret
    refine ⟨rfl, HFIN.out _ ?_, ?_⟩
    · rw [HW2.out]; exact setRow_heap W1 g cur2 _ 102 _ HB1.out
    · rw [HW2.out]; exact HK1.out.setRow (.inl rfl) _

set_option maxRecDepth 100000 in
set_option maxHeartbeats 400000 in
/-- slices.Insert of one, at the end. -/
theorem insert_end_msg (base vb : Nat) (v : Value) (l : List Msg) (x : Msg) (w : World) (h1 : ∀ x : Msg, ∀ v ∈ msgCells x, v.oneCell' = true) (hbig : l.length ≤ 1000000000) (hbase : base ≤ w.heap.size)
    (h : w.ownsRow base 102 2 v l.length (l.flatMap msgCells)) (hv : Blk w vb (msgCells x).toArray 102) :
    Calls Try.prog 62 #[v, .int .i64 l.length, .slice (some ⟨vb, 0, none⟩) 1 1] w fun e w' => ∃ A c, e = .returned (.slice A (l.length + 1) c) ∧
      w'.ownsRow base 102 2 (.slice A (l.length + 1) c) (l.length + 1) ((put1 l l.length x).flatMap msgCells) ∧ Keep (fun k => v.ownBlock = some k) w w' ∧ (∀ g, (Value.slice A (l.length + 1) c).ownBlock = some g → v.ownBlock = some g ∨ w.heap.size ≤ g) := by
  obtain ⟨i0, hi, hz0, hz1, hz2⟩ := info_parts info_msg
  obtain ⟨A, c, rfl⟩ := ownsRow_slice h
  have hnews := hv.cellsAt' 0 (msgCells x) (fun j v hj => by simpa using hj)
  have hput : put1 l l.length x = l ++ [x] := by unfold put1; simp
  have HP : Hid ((put1 l l.length x).flatMap msgCells = l.flatMap msgCells ++ msgCells x) := by show _ = _; rw [hput, List.flatMap_append]; simp
  have HO := Lib.hid h
  have HN := Lib.hid hnews
  have H1 := Lib.hid (h1 x)
  have hcx := (show l.length ≤ c from by
    obtain ⟨A', c', he, hle, -⟩ := (Reads.of_owns h).val
    cases he; exact hle)
  have i1 : (0 : Int) ≤ (l.length : Int) := by omega
  have i2 : (l.length : Int) ≤ (c : Int) := by omega
  clear h hv hnews hput h1
  cases A with
  | none =>
    have hc0 : c = 0 ∧ l.length = 0 := by
      obtain ⟨A', c', he, -, -, h3, -⟩ := (Reads.of_owns HO.out).val
      cases he; exact ⟨(h3 rfl).2, (h3 rfl).1⟩
    have hl0 : l = [] := List.eq_nil_of_length_eq_zero hc0.2
    obtain rfl := hc0.1
    subst hl0
    clear hc0
    go_enter Try.func62, Try.ntmps62
    go_wp2_with (at_builtin; refine wpList_app rfl _ _ 96 rfl base 102 i0 (.agg #[.int .i64 0, .slice none 0 0]) 2 32 Try.underlying96 hi hz0 hz1 hz2 rfl (.slice none 0 0) 0 _ rfl HO.out ⟨vb, 0, none⟩ 1 1 (msgCells x) rfl rfl HN.out H1.out (by unfold maxLen; omega) (by omega) hbase ?_; rintro A2 c2 w2 hown2 hk2 hg2 -)
    have HO2 := Lib.hid hown2
    have HK2 := Lib.hid hk2
    have HG2 := Lib.hid hg2
    clear hown2 hk2 hg2
    go_wp2
    go_ret
    exact ⟨A2, c2, rfl, by have e := HP.out; rw [List.length_nil] at e; rw [e]; exact HO2.out, HK2.out, HG2.out⟩
  | some a =>
    by_cases hcc : c = l.length
    all_goals
      go_enter Try.func62, Try.ntmps62
      go_wp2_with (at_builtin; refine wpList_app rfl _ _ 96 rfl base 102 i0 (.agg #[.int .i64 0, .slice none 0 0]) 2 32 Try.underlying96 hi hz0 hz1 hz2 rfl (.slice (some a) l.length c) l.length _ rfl HO.out ⟨vb, 0, none⟩ 1 1 (msgCells x) rfl rfl HN.out H1.out (by unfold maxLen; omega) (by omega) hbase ?_; rintro A2 c2 w2 hown2 hk2 hg2 -)
      have HO2 := Lib.hid hown2
      have HK2 := Lib.hid hk2
      have HG2 := Lib.hid hg2
      clear hown2 hk2 hg2
      go_wp2
      go_ret
      exact ⟨A2, c2, rfl, by rw [HP.out]; exact HO2.out, HK2.out, HG2.out⟩

end Go.Proofs.Ytlodiibmofeikaa
