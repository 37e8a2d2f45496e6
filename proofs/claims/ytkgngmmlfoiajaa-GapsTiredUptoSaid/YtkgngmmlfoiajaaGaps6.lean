/- gaps: Ask. -/
import Derived.Test.YtkgngmmlfoiajaaGaps5
import Derived.BigRegion
import Derived.BigQuiet
import Derived.Lib.MinMax
namespace Go.Proofs.Ytkgngmmlfoiajaa
open Go.RowKit
set_option linter.unusedVariables false
set_option linter.unusedSimpArgs false

theorem info_pair : (Try.prog.info? 36).map (fun i => (i.zero, i.size, i.bytes)) = some (some (.agg #[.int .i64 0, .int .i64 0]), 2, 16) := by kernel_rfl
def pairCells (x : Int × Int) : List Value := [.int .i64 x.1, .int .i64 x.2]
theorem pairCells_len (x : Int × Int) : (pairCells x).length = 2 := rfl
theorem pairs_one (l : List (Int × Int)) : ∀ u ∈ l.flatMap pairCells, u.oneCell' = true := by
  intro u hu
  obtain ⟨x, -, hx⟩ := List.mem_flatMap.1 hu
  simp [pairCells] at hx
  rcases hx with rfl | rfl <;> rfl

set_option maxRecDepth 100000 in
theorem ask_no (b : Nat) (v : Value) (l : List Hole) (f lg now most : Int) (w : World) (h : GpAt w b v l f lg) (hn : l.length ≤ 100000) (ht : inT now = false) :
    Calls Try.prog 10 #[.pointer (some ⟨b, 0, none⟩), .int .i64 now, .int .i64 most] w fun e w' => e = .returned (.slice none 0 0) ∧ w = w' := by
  have HT := Lib.hid (fun w => time_any now w)
  rw [ht] at HT
  obtain ⟨A, c, rfl⟩ := h.slice
  obtain ⟨c0, c1, c2⟩ := blk3 h.str
  have HH := Lib.hid h.holes
  obtain ⟨n, hnn⟩ : ∃ n, n = l.length := ⟨_, rfl⟩
  rw [← hnn] at c2 hn HH
  have HN := Lib.hid hnn
  clear h hnn ht
  go_enter Try.func10, Try.ntmps10
  go_wp2
  go_loopw [7, 8, 9, 10, 16, 51, 76] (fun o _ _ _ i _ _ wr => ∃ k : Nat, k ≤ n ∧ i = .int .i64 k ∧ o = .slice none 0 0 ∧ w = wr) (fun _ _ _ _ i _ _ _ => n - (intOf i).toNat)
  case atStart => exact ⟨0, by omega, rfl, by first | exact ⟨rfl, rfl⟩ | simp⟩
  case round =>
    obtain ⟨k, hk, rfl, rfl, rfl⟩ := hrel
    by_cases hlt : k < n
    · obtain ⟨o, ho⟩ : ∃ o, l[k]? = some o := ⟨_, List.getElem?_eq_getElem (by rw [← HN.out]; exact hlt)⟩
      obtain ⟨g, p, c0', he, o0, o1, o2, o3⟩ := HolesAt.at HH.out ho
      rw [← HN.out] at he
      cases he
      have i1 : (0 : Int) ≤ (k : Int) := by omega
      have i2 : (k : Int) < (n : Int) := by omega
      clear ho
      go_wp2_with fail
      refine (HT.out _).mono ?_
      rintro e w' ⟨rfl, rfl⟩
      go_wp2
      go_roundw
      case rel => exact ⟨k + 1, by omega, by go_num, by first | exact ⟨rfl, rfl⟩ | simp⟩
      case measure => simp [intOf]; omega
    · obtain rfl : k = n := by omega
      go_wp2
      go_ret
      exact ⟨rfl, rfl⟩

theorem flat_set4 : ∀ (l : List Hole) (r : Nat) (o : Hole), r < l.length → ((((l.flatMap holeCells).set (r * 4) (.int .i64 o.block)).set (r * 4 + 1) (.int .i64 o.due)).set (r * 4 + 2) (.int .i64 o.wait)).set (r * 4 + 3) (.int .i64 o.tries) = (l.set r o).flatMap holeCells
  | [], r, o, h => by simp at h
  | z :: l, 0, o, _ => by simp [holeCells]
  | z :: l, r + 1, o, h => by
    have ih := flat_set4 l r o (by simpa using h)
    rw [List.set_cons_succ, List.flatMap_cons, List.flatMap_cons, ← ih, show (r + 1) * 4 = r * 4 + 4 by omega]
    simp [holeCells]
theorem GpAt.setL {w : World} {b g k n : Nat} {l : List Hole} {f lg : Int} (h : GpAt w b (.slice (some ⟨g, 0, none⟩) n k) l f lg) (hn : l.length = n) {r : Nat} (t : Hole) (hr : r < n) :
    GpAt ((((w.setCell ⟨g, r * 4, none⟩ (.int .i64 t.block)).setCell ⟨g, r * 4 + 1, none⟩ (.int .i64 t.due)).setCell ⟨g, r * 4 + 2, none⟩ (.int .i64 t.wait)).setCell ⟨g, r * 4 + 3, none⟩ (.int .i64 t.tries)) b (.slice (some ⟨g, 0, none⟩) n k) (l.set r t) f lg := by
  subst hn
  have hl : (l.flatMap holeCells).length = l.length * 4 := flatMap_length holeCells_len l
  have hne : b ≠ g := fun e => (h.ne (g := g) rfl).1 e.symm
  refine ⟨(((h.str.setOther hne _).setOther hne _).setOther hne _).setOther hne _, ?_⟩
  rw [List.length_set, ← flat_set4 l r t hr]
  have h1 := ownsRow_set h.row (j := r * 4) (by omega) (.int .i64 t.block)
  have h2 := ownsRow_set h1 (j := r * 4 + 1) (by rw [List.length_set]; omega) (.int .i64 t.due)
  have h3 := ownsRow_set h2 (j := r * 4 + 2) (by rw [List.length_set, List.length_set]; omega) (.int .i64 t.wait)
  exact ownsRow_set h3 (j := r * 4 + 3) (by rw [List.length_set, List.length_set, List.length_set]; omega) (.int .i64 t.tries)
theorem keep_set4 {S : Nat → Prop} {w w1 : World} {g : Nat} (h : Keep S w w1) (hg : S g) (v0 v1 v2 v3 : Value) (o0 o1 o2 o3 : Nat) : Keep S w ((((w1.setCell ⟨g, o0, none⟩ v0).setCell ⟨g, o1, none⟩ v1).setCell ⟨g, o2, none⟩ v2).setCell ⟨g, o3, none⟩ v3) :=
  (((h.setCell (p := ⟨g, o0, none⟩) (.inl hg) _).setCell (p := ⟨g, o1, none⟩) (.inl hg) _).setCell (p := ⟨g, o2, none⟩) (.inl hg) _).setCell (p := ⟨g, o3, none⟩) (.inl hg) _

/-- what holds at a round of Ask -/
structure AskI (w wr : World) (b : Nat) (v o : Value) (l l1 : List Hole) (out : List (Int × Int)) (f lg now m : Int) (k : Nat) : Prop where
  gp : GpAt wr b v l1 f lg
  row : wr.ownsRow w.heap.size 36 2 o out.length (out.flatMap pairCells)
  kp : Keep (fun k => v.ownBlock = some k) w wr
  len : l1.length = l.length
  rest : l1.drop k = l.drop k
  eq : askGo now m lg l [] = (l1.take k ++ (askGo now m lg (l.drop k) out).1, (askGo now m lg (l.drop k) out).2)
  le : out.length ≤ 16
theorem AskI.at {w wr : World} {b : Nat} {v o : Value} {l l1 : List Hole} {out : List (Int × Int)} {f lg now m : Int} {k : Nat} (h : AskI w wr b v o l l1 out f lg now m k) {x : Hole} (hx : l[k]? = some x) : l1[k]? = some x := by
  have h1 : (l1.drop k)[0]? = (l.drop k)[0]? := by rw [h.rest]
  simpa [hx] using h1
theorem drop_at {l : List Hole} {k : Nat} {x : Hole} (hx : l[k]? = some x) : l.drop k = x :: l.drop (k + 1) := by
  obtain ⟨hk, rfl⟩ := List.getElem?_eq_some_iff.1 hx
  exact List.drop_eq_getElem_cons hk
theorem take_at {l : List Hole} {k : Nat} {x : Hole} (hx : l[k]? = some x) : l.take (k + 1) = l.take k ++ [x] := by rw [List.take_add_one, hx]; rfl
/-- it was not due -/
theorem AskI.skip {w wr : World} {b : Nat} {v o : Value} {l l1 : List Hole} {out : List (Int × Int)} {f lg now m : Int} {k : Nat} (h : AskI w wr b v o l l1 out f lg now m k) {x : Hole} (hx : l[k]? = some x) (hd : now < x.due) : AskI w wr b v o l l1 out f lg now m (k + 1) := by
  refine ⟨h.gp, h.row, h.kp, h.len, ?_, ?_, h.le⟩
  · rw [← List.drop_drop, h.rest, List.drop_drop]
  · rw [h.eq, drop_at hx, take_at (h.at hx)]
    have e : askGo now m lg (x :: l.drop (k + 1)) out = (x :: (askGo now m lg (l.drop (k + 1)) out).1, (askGo now m lg (l.drop (k + 1)) out).2) := by
      conv => lhs; unfold askGo
      rw [if_pos hd]
    rw [e]
    simp
theorem set_take {l : List Hole} {k : Nat} (y : Hole) (hk : k < l.length) : (l.set k y).take (k + 1) = l.take k ++ [y] := by
  rw [List.take_add_one, List.getElem?_set_self hk, List.take_set, List.set_eq_of_length_le (by rw [List.length_take]; omega)]
  rfl
/-- it was asked for -/
theorem AskI.ask {w wr w' : World} {b : Nat} {v o o' : Value} {l l1 : List Hole} {out out' : List (Int × Int)} {f lg now m : Int} {k : Nat} (h : AskI w wr b v o l l1 out f lg now m k) {x : Hole} (hx : l[k]? = some x)
    (hs : ∀ t, askGo now m lg (x :: t) out = (ask1 now lg x :: (askGo now m lg t out').1, (askGo now m lg t out').2))
    (hg : GpAt w' b v (l1.set k (ask1 now lg x)) f lg) (hr : w'.ownsRow w.heap.size 36 2 o' out'.length (out'.flatMap pairCells)) (hk : Keep (fun k => v.ownBlock = some k) w w') (hl : out'.length ≤ 16) :
    AskI w w' b v o' l (l1.set k (ask1 now lg x)) out' f lg now m (k + 1) := by
  have hlt : k < l1.length := by rw [h.len]; exact (List.getElem?_eq_some_iff.1 hx).1
  refine ⟨hg, hr, hk, by rw [List.length_set]; exact h.len, ?_, ?_, hl⟩
  · rw [List.drop_set_of_lt (by omega), ← List.drop_drop, h.rest, List.drop_drop]
  · rw [h.eq, drop_at hx, hs, set_take _ hlt]
    simp
theorem askGo_touch {now m lg : Int} {x : Hole} {t : List Hole} {out : List (Int × Int)} (hd : x.due ≤ now) (ht : touch out x.block = true) : askGo now m lg (x :: t) out = (ask1 now lg x :: (askGo now m lg t (bump out)).1, (askGo now m lg t (bump out)).2) := by
  conv => lhs; unfold askGo
  rw [if_neg (by omega), if_pos ht]
theorem askGo_new {now m lg : Int} {x : Hole} {t : List Hole} {out : List (Int × Int)} (hd : x.due ≤ now) (ht : touch out x.block = false) (hm : out.length < m) : askGo now m lg (x :: t) out = (ask1 now lg x :: (askGo now m lg t (out ++ [(x.block, x.block + 1)])).1, (askGo now m lg t (out ++ [(x.block, x.block + 1)])).2) := by
  conv => lhs; unfold askGo
  rw [if_neg (by omega), ht, if_neg (by decide), if_neg (by omega)]
theorem askGo_full {now m lg : Int} {x : Hole} {t : List Hole} {out : List (Int × Int)} (hd : x.due ≤ now) (ht : touch out x.block = false) (hm : m ≤ out.length) : askGo now m lg (x :: t) out = (x :: t, out) := by
  unfold askGo
  rw [if_neg (by omega), ht, if_neg (by decide), if_pos hm]
/-- no more room -/
theorem AskI.full {w wr : World} {b : Nat} {v o : Value} {l l1 : List Hole} {out : List (Int × Int)} {f lg now m : Int} {k : Nat} (h : AskI w wr b v o l l1 out f lg now m k) {x : Hole} (hx : l[k]? = some x) (hs : ∀ t, askGo now m lg (x :: t) out = (x :: t, out)) : askGo now m lg l [] = (l1, out) := by
  rw [h.eq, drop_at hx, hs, ← drop_at hx, ← h.rest, List.take_append_drop]
theorem AskI.done {w wr : World} {b : Nat} {v o : Value} {l l1 : List Hole} {out : List (Int × Int)} {f lg now m : Int} {k : Nat} (h : AskI w wr b v o l l1 out f lg now m k) (hk : l.length ≤ k) : askGo now m lg l [] = (l1, out) := by
  rw [h.eq, List.drop_of_length_le hk]
  unfold askGo
  rw [List.append_nil, List.take_of_length_le (by rw [h.len]; exact hk)]
theorem pairs_set : ∀ (l : List (Int × Int)) (r : Nat) (x : Int × Int) (y : Int), l[r]? = some x → (l.flatMap pairCells).set (r * 2 + 1) (.int .i64 y) = (l.set r (x.1, y)).flatMap pairCells
  | [], r, x, y, h => by simp at h
  | z :: l, 0, x, y, h => by simp at h; subst h; simp [pairCells]
  | z :: l, r + 1, x, y, h => by
    have ih := pairs_set l r x y (by simpa using h)
    rw [List.set_cons_succ, List.flatMap_cons, List.flatMap_cons, ← ih, show (r + 1) * 2 + 1 = r * 2 + 1 + 2 by omega]
    simp [pairCells]

theorem AskI.drewN {w wr : World} {b : Nat} {v o : Value} {l l1 : List Hole} {out : List (Int × Int)} {f lg now m : Int} {k : Nat} (h : AskI w wr b v o l l1 out f lg now m k) (j : Nat) : AskI w (wr.drewN j) b v o l l1 out f lg now m k :=
  ⟨h.gp.drewN j, ownsRow_drewN h.row j, h.kp.drewN j, h.len, h.rest, h.eq, h.le⟩
theorem AskI.app {w wq w4 : World} {b g n c : Nat} {o : Value} {l l1 : List Hole} {out : List (Int × Int)} {f lg now m : Int} {k : Nat} (h : AskI w wq b (.slice (some ⟨g, 0, none⟩) n c) o l l1 out f lg now m k) (hgl : g < w.heap.size) (hbl : b < w.heap.size) (y : Int × Int) {m0 : Nat} (hm : m0 = out.length) {v' : Value}
    (hr : w4.ownsRow w.heap.size 36 2 v' (m0 + 1) (out.flatMap pairCells ++ #[Value.int .i64 y.1, Value.int .i64 y.2].toList)) (hk : Keep (fun k => o.ownBlock = some k) wq w4) :
    GpAt w4 b (.slice (some ⟨g, 0, none⟩) n c) l1 f lg ∧ w4.ownsRow w.heap.size 36 2 v' (out ++ [y]).length ((out ++ [y]).flatMap pairCells) ∧ Keep (fun k => (Value.slice (some ⟨g, 0, none⟩) n c).ownBlock = some k) w w4 := by
  subst hm
  have ho : ∀ g', o.ownBlock = some g' → w.heap.size ≤ g' := fun g' hg => (h.row.lt g' hg).1
  refine ⟨h.gp.keep hk (fun e => by have := ho b e; omega) (fun g' hg' e => by cases hg'; have := ho g e; omega), ?_, h.kp.trans hk (fun k hk e => by have := ho k e; omega)⟩
  rw [List.length_append, List.flatMap_append]
  simpa [pairCells] using hr
/-- what Ask leaves -/
def Askd (w w' : World) (b : Nat) (v o : Value) (f lg : Int) (r : List Hole × List (Int × Int)) : Prop :=
  GpAt w' b v r.1 f lg ∧ w'.ownsRow w.heap.size 36 2 o r.2.length (r.2.flatMap pairCells) ∧ Keep (fun k => v.ownBlock = some k) w w'
theorem AskI.end {w wr : World} {b : Nat} {v o : Value} {l l1 : List Hole} {out : List (Int × Int)} {f lg now m : Int} {k : Nat} (h : AskI w wr b v o l l1 out f lg now m k) (he : askGo now m lg l [] = (l1, out)) : Askd w wr b v o f lg (askGo now m lg l []) := by
  rw [he]; exact ⟨h.gp, h.row, h.kp⟩

theorem AskI.set {w wr wz : World} {b g n c : Nat} {o o' : Value} {l l1 : List Hole} {out out' : List (Int × Int)} {f lg now m : Int} {k : Nat} (h : AskI w wr b (.slice (some ⟨g, 0, none⟩) n c) o l l1 out f lg now m k) (hn : l1.length = n) {x : Hole} (hx : l[k]? = some x)
    (hs : ∀ t, askGo now m lg (x :: t) out = (ask1 now lg x :: (askGo now m lg t out').1, (askGo now m lg t out').2))
    (hg : GpAt wz b (.slice (some ⟨g, 0, none⟩) n c) l1 f lg) (hr : wz.ownsRow w.heap.size 36 2 o' out'.length (out'.flatMap pairCells)) (hk : Keep (fun k => (Value.slice (some ⟨g, 0, none⟩) n c).ownBlock = some k) w wz) (hgl : g < w.heap.size) (hl : out'.length ≤ 16) :
    AskI w ((((wz.setCell ⟨g, k * 4, none⟩ (.int .i64 x.block)).setCell ⟨g, k * 4 + 1, none⟩ (.int .i64 (now + x.wait))).setCell ⟨g, k * 4 + 2, none⟩ (.int .i64 (min (2 * x.wait) lg))).setCell ⟨g, k * 4 + 3, none⟩ (.int .i64 (x.tries + 1))).drew
      b (.slice (some ⟨g, 0, none⟩) n c) o' l (l1.set k (ask1 now lg x)) out' f lg now m (k + 1) := by
  refine h.ask hx hs (GpAt.setL hg hn (ask1 now lg x) (by rw [← hn, h.len]; exact (List.getElem?_eq_some_iff.1 hx).1)).drew ?_ ?_ hl
  · exact ownsRow_keep hr (Keep.drew (keep_set4 (Keep.refl (fun k => k = g) wz) rfl _ _ _ _ _ _ _ _)) (fun g' hg' e => by have := (hr.lt g' hg').1; omega)
  · exact Keep.drew (keep_set4 hk rfl _ _ _ _ _ _ _ _)

set_option maxRecDepth 100000 in
set_option maxHeartbeats 4000000 in
theorem ask_yes (K b : Nat) (v : Value) (l : List Hole) (f lg now most : Int) (w : World) (h : GpAt w b v l f lg) (hr : Rl K l) (hK : K ≤ 100000) (hn : l.length ≤ 100000) (ht : inT now = true) (hlg1 : 1 ≤ lg) (hlg2 : lg ≤ 1048576) :
    Calls Try.prog 10 #[.pointer (some ⟨b, 0, none⟩), .int .i64 now, .int .i64 most] w fun e w' => ∃ o, e = .returned o ∧ Askd w w' b v o f lg (askGo now (min most 16) lg l []) := by
  have HT := Lib.hid (fun w => time_any now w)
  rw [ht] at HT
  obtain ⟨n1, n2⟩ := inT_iff.1 ht
  obtain ⟨A, c, hv⟩ := h.slice
  obtain ⟨n, hnn⟩ : ∃ n, n = l.length := ⟨_, rfl⟩
  rw [← hnn] at hv
  have H0 : Hid (AskI w w b v (.slice none 0 0) l l [] f lg now (min most 16) 0) := ⟨h, World.ownsRow_nil _ _ _ _, Keep.refl _ _, rfl, rfl, by simp, by simp⟩
  subst hv
  obtain ⟨c0, c1, c2⟩ := blk3 h.str
  rw [← hnn] at hn
  have HN := Lib.hid hnn
  have HR := Lib.hid hr
  have hlv : ∀ g, (Value.slice A n c).ownBlock = some g → g < w.heap.size := fun g hg => (h.ne hg).2
  have HLV := Lib.hid hlv
  have hbw : b < w.heap.size := h.str.lt
  obtain ⟨i0, hi, hz0, hz1, hz2⟩ := info_parts info_pair
  clear h hnn ht hr hlv
  go_enter Try.func10, Try.ntmps10
  go_wp2
  clear c0 c1 c2
  go_loopw [7, 8, 9, 10, 16, 51, 76] (fun o _ _ _ i _ _ wr => ∃ k : Nat, k ≤ n ∧ i = .int .i64 k ∧ ∃ l1 out, Hid (AskI w wr b (.slice A n c) o l l1 out f lg now (min most 16) k)) (fun _ _ _ _ i _ _ _ => n - (intOf i).toNat)
  case atStart => exact ⟨0, by omega, rfl, l, [], H0⟩
  case round =>
    obtain ⟨k, hk, rfl, l1, out, HI⟩ := hrel
    by_cases hlt : k < n
    · obtain ⟨x, hx⟩ : ∃ x, l[k]? = some x := ⟨_, List.getElem?_eq_getElem (by rw [← HN.out]; exact hlt)⟩
      have hx1 := HI.out.at hx
      have hln : l1.length = n := by rw [HI.out.len, HN.out]
      have hfx := HR.out.fine x (List.mem_of_getElem? hx)
      obtain ⟨b0, b1, d0, d1, w0, w1, t0, t1⟩ := hfx
      rcases HI.out.gp.row.2 with ⟨hv0, hz⟩ | ⟨g, cap, cur, hv, -⟩
      · omega
      have hv2 : (Value.slice A n c) = .slice (some ⟨g, 0, none⟩) n cap := by rw [hv, hln]
      cases hv2
      have hgp := HI.out.gp
      rw [hln] at hv
      obtain ⟨c0, c1, c2⟩ := blk3 hgp.str
      obtain ⟨o0, o1, o2, o3⟩ := hgp.one hx1
      have i1 : (0 : Int) ≤ (k : Int) := by omega
      have i2 : (k : Int) < (n : Int) := by omega
      obtain ⟨Ao, co, ho⟩ := ownsRow_slice HI.out.row
      subst ho
      have HX := Lib.hid hx
      have HX1 := Lib.hid hx1
      have HLN := Lib.hid hln
      obtain ⟨m0, hm0⟩ : ∃ m0, m0 = out.length := ⟨_, rfl⟩
      rw [← hm0] at HI ⊢
      have HM0 := Lib.hid hm0
      clear hx hx1 hln hv hgp hm0
      by_cases hd : now < x.due
      · go_wp2_with fail
        refine (HT.out _).mono ?_
        rintro e w' ⟨rfl, rfl⟩
        clear HT
        go_wp2
        go_roundw
        case rel => exact ⟨k + 1, by omega, by go_num, l1, out, Lib.hid (HI.out.skip HX.out hd)⟩
        case measure => simp [intOf]; omega
      · have hd' : x.due ≤ now := by omega
        go_wp2_with fail
        refine (HT.out _).mono ?_
        rintro e w' ⟨rfl, rfl⟩
        clear HT
        cases htc : touch out x.block
        · have hrow := HI.out.row
          have hm16 : m0 ≤ 16 := by rw [HM0.out]; exact HI.out.le
          rw [← HM0.out] at hrow
          have HRW := Lib.hid hrow
          have HTC := Lib.hid htc
          rcases (by
            unfold touch at htc
            cases e : out[out.length - 1]? with
            | none => exact .inl (by have := List.getElem?_eq_none_iff.1 e; have := HM0.out; omega)
            | some y =>
              rw [e] at htc
              have := (List.getElem?_eq_some_iff.1 e).1
              exact .inr ⟨out.length - 1, y, by have := HM0.out; omega, e, by simpa using htc⟩ : m0 = 0 ∨ ∃ q y, m0 = q + 1 ∧ out[q]? = some y ∧ y.2 ≠ x.block) with hz | ⟨q, y, hq, hy, hyb⟩
          · subst hz
            clear htc hrow
            by_cases hm : min most 16 ≤ 0
            · go_wp2_with fail
              go_quiet (fail)
              go_wp2_with fail
              go_ret
              exact ⟨_, rfl, (HI.out.drewN nq).end ((HI.out.drewN nq).full HX.out fun t => askGo_full hd' HTC.out (by rw [← HM0.out]; omega))⟩
            · have hm' : 0 < min most 16 := by omega
              have HS := Lib.hid (fun t => askGo_new (now := now) (m := min most 16) (lg := lg) (t := t) hd' HTC.out (by rw [← HM0.out]; omega))
              clear hm
              go_wp2_with fail
              go_quiet (fail)
              go_wp2_with fail
              have HJ0 := Lib.hid (HI.out.drewN nq)
              have HRQ := Lib.hid (ownsRow_drewN HRW.out nq)
              generalize wr.drewN nq = wq at *
              clear c0 c1 c2 o0 o1 o2 o3 
              obtain ⟨o0, o1, o2, o3⟩ := HJ0.out.gp.one HX1.out
              have hbq : w.heap.size ≤ wq.heap.size := HJ0.out.kp.size
              have hgq : g < wq.heap.size := (HJ0.out.gp.ne (g := g) rfl).2
              have W1 : IntKind.i64.wrap (x.block + 1) = x.block + 1 := IntWalk.i64_in _ (by omega)
              go_region_law ((refine step_app1 (by rfl) _ _ 33 (by rfl) w.heap.size 36 i0 _ 2 16 Try.underlying33 hi hz0 hz1 hz2 rfl (.slice Ao 0 co) 0 (out.flatMap pairCells) (by rfl) (by first | exact HRQ.out.alloc _ | exact ownsRow_keep (HRQ.out.alloc _) ((Keep.refl (fun _ => False) _).drew) (fun _ _ => id)) wq.heap.size #[.int .i64 x.block, .int .i64 (x.block + 1)] (0, 0) 1 (by rfl) (heap_alloc_new wq _) rfl (by intro u hu; simp at hu; rcases hu with rfl | rfl <;> rfl) (by omega) (by omega) (by simp; omega) ?_; intro A1 k1 w4 hown1 hk1 hw1))
              all_goals
                have HJ1 := Lib.hid (HJ0.out.app (HLV.out g rfl) hbw (x.block, x.block + 1) HM0.out hown1 (by first | exact (((Keep.refl _ wq).alloc _).drew).trans hk1 (fun _ _ h => h) | exact ((Keep.refl _ wq).alloc _).trans hk1 (fun _ _ h => h)))
                clear o0 o1 o2 o3 W1
                obtain ⟨c0, c1, c2⟩ := blk3 HJ1.out.1.str
                obtain ⟨o0, o1, o2, o3⟩ := HJ1.out.1.one HX1.out
                have f0 := ownsRow_frozen HJ1.out.1.row (k * 4)
                have f1 := ownsRow_frozen HJ1.out.1.row (k * 4 + 1)
                have f2 := ownsRow_frozen HJ1.out.1.row (k * 4 + 2)
                have f3 := ownsRow_frozen HJ1.out.1.row (k * 4 + 3)
                have W1 : IntKind.i64.wrap (now + x.wait) = now + x.wait := IntWalk.i64_in _ (by omega)
                have W2 : IntKind.i64.wrap (2 * x.wait) = 2 * x.wait := IntWalk.i64_in _ (by omega)
                have W3 : IntKind.i64.wrap (x.tries + 1) = x.tries + 1 := IntWalk.i64_in _ (by omega)
                clear hown1 hk1 hw1
                go_wp2_with fail
                go_region
                have HJ := Lib.hid (HI.out.set HLN.out HX.out HS.out HJ1.out.1 HJ1.out.2.1 HJ1.out.2.2 (HLV.out g rfl) (by rw [List.length_append, ← HM0.out]; simp only [List.length_cons, List.length_nil]; omega))
                go_wp2
                go_roundw
                case rel => exact ⟨k + 1, by omega, by go_num, _, _, HJ⟩
                case measure => simp [intOf]; omega
          · subst hq
            rcases hrow.2 with ⟨_, hz⟩ | ⟨g2, cap2, cur2, hv2, hbg2, hh2, -⟩
            · omega
            cases hv2
            have p1 := ownsRow_cell hrow (flatMap_at pairCells_len out q y 1 _ hy rfl)
            have t1 : (y.2 == x.block) = false := by rw [beq_eq_false_iff_ne]; exact hyb
            clear hy hyb hh2
            clear htc hrow
            by_cases hm : min most 16 ≤ (q : Int) + 1
            · go_wp2_with fail
              go_quiet (fail)
              go_wp2_with fail
              go_ret
              exact ⟨_, rfl, (HI.out.drewN nq).end ((HI.out.drewN nq).full HX.out fun t => askGo_full hd' HTC.out (by rw [← HM0.out]; omega))⟩
            · have hm' : (q : Int) + 1 < min most 16 := by omega
              have HS := Lib.hid (fun t => askGo_new (now := now) (m := min most 16) (lg := lg) (t := t) hd' HTC.out (by rw [← HM0.out]; omega))
              clear hm
              go_wp2_with fail
              go_quiet (fail)
              go_wp2_with fail
              have HJ0 := Lib.hid (HI.out.drewN nq)
              have HRQ := Lib.hid (ownsRow_drewN HRW.out nq)
              generalize wr.drewN nq = wq at *
              clear c0 c1 c2 o0 o1 o2 o3 p1
              obtain ⟨o0, o1, o2, o3⟩ := HJ0.out.gp.one HX1.out
              have hbq : w.heap.size ≤ wq.heap.size := HJ0.out.kp.size
              have hgq : g < wq.heap.size := (HJ0.out.gp.ne (g := g) rfl).2
              have W1 : IntKind.i64.wrap (x.block + 1) = x.block + 1 := IntWalk.i64_in _ (by omega)
              go_region_law ((refine step_app1 (by rfl) _ _ 33 (by rfl) w.heap.size 36 i0 _ 2 16 Try.underlying33 hi hz0 hz1 hz2 rfl (.slice (some ⟨g2, 0, none⟩) (q + 1) co) (q + 1) (out.flatMap pairCells) (by rfl) (by first | exact HRQ.out.alloc _ | exact ownsRow_keep (HRQ.out.alloc _) ((Keep.refl (fun _ => False) _).drew) (fun _ _ => id)) wq.heap.size #[.int .i64 x.block, .int .i64 (x.block + 1)] (0, 0) 1 (by rfl) (heap_alloc_new wq _) rfl (by intro u hu; simp at hu; rcases hu with rfl | rfl <;> rfl) (by omega) (by omega) (by simp; omega) ?_; intro A1 k1 w4 hown1 hk1 hw1))
              all_goals
                have HJ1 := Lib.hid (HJ0.out.app (HLV.out g rfl) hbw (x.block, x.block + 1) HM0.out hown1 (by first | exact (((Keep.refl _ wq).alloc _).drew).trans hk1 (fun _ _ h => h) | exact ((Keep.refl _ wq).alloc _).trans hk1 (fun _ _ h => h)))
                clear o0 o1 o2 o3 W1
                obtain ⟨c0, c1, c2⟩ := blk3 HJ1.out.1.str
                obtain ⟨o0, o1, o2, o3⟩ := HJ1.out.1.one HX1.out
                have f0 := ownsRow_frozen HJ1.out.1.row (k * 4)
                have f1 := ownsRow_frozen HJ1.out.1.row (k * 4 + 1)
                have f2 := ownsRow_frozen HJ1.out.1.row (k * 4 + 2)
                have f3 := ownsRow_frozen HJ1.out.1.row (k * 4 + 3)
                have W1 : IntKind.i64.wrap (now + x.wait) = now + x.wait := IntWalk.i64_in _ (by omega)
                have W2 : IntKind.i64.wrap (2 * x.wait) = 2 * x.wait := IntWalk.i64_in _ (by omega)
                have W3 : IntKind.i64.wrap (x.tries + 1) = x.tries + 1 := IntWalk.i64_in _ (by omega)
                clear hown1 hk1 hw1
                go_wp2_with fail
                go_region
                have HJ := Lib.hid (HI.out.set HLN.out HX.out HS.out HJ1.out.1 HJ1.out.2.1 HJ1.out.2.2 (HLV.out g rfl) (by rw [List.length_append, ← HM0.out]; simp only [List.length_cons, List.length_nil]; omega))
                go_wp2
                go_roundw
                case rel => exact ⟨k + 1, by omega, by go_num, _, _, HJ⟩
                case measure => simp [intOf]; omega
        · have HS := Lib.hid (fun t => askGo_touch (now := now) (m := min most 16) (lg := lg) (t := t) hd' htc)
          obtain ⟨q, y, hq, hy, hyb⟩ : ∃ q y, m0 = q + 1 ∧ out[q]? = some y ∧ y.2 = x.block := by
            unfold touch at htc
            cases e : out[out.length - 1]? with
            | none => rw [e] at htc; cases htc
            | some y =>
              rw [e] at htc
              have := (List.getElem?_eq_some_iff.1 e).1
              exact ⟨out.length - 1, y, by have := HM0.out; omega, e, by simpa using htc⟩
          have hbm : bump out = out.set q (y.1, y.2 + 1) := by unfold bump; rw [← HM0.out, hq, Nat.add_sub_cancel, hy]
          have hle := HI.out.le
          have hrow := HI.out.row
          rw [← HM0.out] at hrow hle
          subst hq
          rcases hrow.2 with ⟨_, hz⟩ | ⟨g2, cap2, cur2, hv2, hbg2, hh2, -⟩
          · omega
          cases hv2
          have p1 := ownsRow_cell hrow (flatMap_at pairCells_len out q y 1 _ hy rfl)
          have f1 := ownsRow_frozen hrow (q * 2 + 1)
          have hgg : g2 ≠ g := by have := HLV.out g rfl; omega
          have HRW := Lib.hid hrow
          have HBM := Lib.hid hbm
          have HQ := Lib.hid HM0.out.symm
          have HY := Lib.hid hy
          have hyc : pairCells y = [.int .i64 y.1, .int .i64 x.block] := by rw [← hyb]; rfl
          rw [hyb] at p1
          have HYB := Lib.hid hyb
          have t1 : (x.block == x.block) = true := by simp
          have hq16 : q < 16 := by omega
          clear hbm hrow htc hle hh2 hyc hyb hy
          go_wp2_with fail
          go_quiet (fail)
          go_wp2_with fail
          go_region
          have hgp' : GpAt ((wr.drewN (nq + 1)).setCell ⟨g2, q * 2 + 1, none⟩ (.int .i64 (x.block + 1))) b (.slice (some ⟨g, 0, none⟩) n c) l1 f lg :=
            (HI.out.gp.drewN _).keep ((Keep.refl (fun k => k = g2) _).setCell (.inl rfl) _) (by omega) (fun g' hg' e => by cases hg'; exact hgg e.symm)
          have hrw' : ((wr.drewN (nq + 1)).setCell ⟨g2, q * 2 + 1, none⟩ (.int .i64 (x.block + 1))).ownsRow w.heap.size 36 2 (.slice (some ⟨g2, 0, none⟩) (q + 1) co) (bump out).length ((bump out).flatMap pairCells) := by
            have h1 := ownsRow_set (ownsRow_drewN HRW.out (nq + 1)) (j := q * 2 + 1) (by rw [flatMap_length pairCells_len, HQ.out]; omega) (.int .i64 (x.block + 1))
            rw [pairs_set out q y _ HY.out, ← HYB.out, ← HBM.out] at h1
            rw [bump_len, HQ.out, ← HYB.out]
            exact h1
          have hkp' : Keep (fun k => (Value.slice (some ⟨g, 0, none⟩) n c).ownBlock = some k) w ((wr.drewN (nq + 1)).setCell ⟨g2, q * 2 + 1, none⟩ (.int .i64 (x.block + 1))) := (HI.out.kp.drewN _).setCell (.inr hbg2) _
          have hz2 : wr.heap.size = ((wr.drewN (nq + 1)).setCell ⟨g2, q * 2 + 1, none⟩ (.int .i64 (x.block + 1))).heap.size := by simp
          generalize (wr.drewN (nq + 1)).setCell ⟨g2, q * 2 + 1, none⟩ (.int .i64 (x.block + 1)) = wz at *
          clear c0 c1 c2 o0 o1 o2 o3 p1 f1
          obtain ⟨c0, c1, c2⟩ := blk3 hgp'.str
          obtain ⟨o0, o1, o2, o3⟩ := hgp'.one HX1.out
          have f0 := ownsRow_frozen hgp'.row (k * 4)
          have f1 := ownsRow_frozen hgp'.row (k * 4 + 1)
          have f2 := ownsRow_frozen hgp'.row (k * 4 + 2)
          have f3 := ownsRow_frozen hgp'.row (k * 4 + 3)
          have HGP := Lib.hid hgp'
          have HRW' := Lib.hid hrw'
          have HKP := Lib.hid hkp'
          have W1 : IntKind.i64.wrap (now + x.wait) = now + x.wait := IntWalk.i64_in _ (by omega)
          have W2 : IntKind.i64.wrap (2 * x.wait) = 2 * x.wait := IntWalk.i64_in _ (by omega)
          have W3 : IntKind.i64.wrap (x.tries + 1) = x.tries + 1 := IntWalk.i64_in _ (by omega)
          clear hgp' hrw' hkp' hz2
          go_wp2_with fail
          go_region
          have HJ := Lib.hid (HI.out.set HLN.out HX.out HS.out HGP.out HRW'.out HKP.out (HLV.out g rfl) (by rw [bump_len]; exact HI.out.le))
          go_wp2
          go_roundw
          case rel => exact ⟨k + 1, by omega, by go_num, _, _, HJ⟩
          case measure => simp [intOf]; omega
    · obtain rfl : k = n := by omega
      obtain ⟨Ao, co, ho⟩ := ownsRow_slice HI.out.row
      subst ho
      go_wp2
      go_ret
      exact ⟨_, rfl, HI.out.end (HI.out.done (by rw [← HN.out]; omega))⟩
end Go.Proofs.Ytkgngmmlfoiajaa
