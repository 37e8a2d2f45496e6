/- gaps: a gaps in memory; the methods New, Len, Holes, find, Drop, Got. -/
import Derived.Test.YtkgngmmlfoiajaaGaps3
namespace Go.Proofs.Ytkgngmmlfoiajaa
open Go.RowKit
set_option linter.unusedVariables false
set_option linter.unusedSimpArgs false

/-- gaps in memory: the struct in block b, the holes in the slice v -/
structure GpAt (w : World) (b : Nat) (v : Value) (l : List Hole) (f lg : Int) : Prop where
  str : Blk w b #[.int .i64 f, .int .i64 lg, v] 58
  row : w.ownsRow 0 62 4 v l.length (l.flatMap holeCells)
theorem GpAt.keep {S : Nat → Prop} {w w' : World} {b : Nat} {v : Value} {l : List Hole} {f lg : Int} (h : GpAt w b v l f lg) (hk : Keep S w w') (hb : ¬ S b) (hv : ∀ g, v.ownBlock = some g → ¬ S g) : GpAt w' b v l f lg :=
  ⟨h.str.keep hk hb, ownsRow_keep h.row hk hv⟩
theorem GpAt.below {w w' : World} {b : Nat} {v : Value} {l : List Hole} {f lg : Int} (h : GpAt w b v l f lg) (hb : Below w.heap.size w w') : GpAt w' b v l f lg := h.keep (Keep.none hb) id (fun _ _ => id)
theorem GpAt.drewN {w : World} {b : Nat} {v : Value} {l : List Hole} {f lg : Int} (h : GpAt w b v l f lg) (n : Nat) : GpAt (w.drewN n) b v l f lg := ⟨h.str, h.row⟩
theorem GpAt.drew {w : World} {b : Nat} {v : Value} {l : List Hole} {f lg : Int} (h : GpAt w b v l f lg) : GpAt w.drew b v l f lg := ⟨h.str, h.row⟩
theorem GpAt.slice {w : World} {b : Nat} {v : Value} {l : List Hole} {f lg : Int} (h : GpAt w b v l f lg) : ∃ A k, v = .slice A l.length k := ownsRow_slice h.row
theorem GpAt.holes {w : World} {b : Nat} {v : Value} {l : List Hole} {f lg : Int} (h : GpAt w b v l f lg) : HolesAt w v l := Reads.of_owns h.row
/-- its two blocks differ -/
theorem GpAt.ne {w : World} {b : Nat} {v : Value} {l : List Hole} {f lg : Int} (h : GpAt w b v l f lg) {g : Nat} (hg : v.ownBlock = some g) : g ≠ b ∧ g < w.heap.size := by
  rcases h.row.2 with ⟨rfl, _⟩ | ⟨g', cap, cur, rfl, h1, hh, _⟩
  · cases hg
  · cases hg
    refine ⟨fun e => ?_, (Array.getElem?_eq_some_iff.1 hh).1⟩
    subst e
    have := h.str
    unfold Blk at this
    rw [hh] at this
    cases this
theorem GpAt.one {w : World} {b g k n : Nat} {l : List Hole} {f lg : Int} (h : GpAt w b (.slice (some ⟨g, 0, none⟩) n k) l f lg) {r : Nat} {o : Hole} (ho : l[r]? = some o) : w.cell? ⟨g, r * 4, none⟩ = some (.int .i64 o.block) ∧ w.cell? ⟨g, r * 4 + 1, none⟩ = some (.int .i64 o.due) ∧ w.cell? ⟨g, r * 4 + 2, none⟩ = some (.int .i64 o.wait) ∧ w.cell? ⟨g, r * 4 + 3, none⟩ = some (.int .i64 o.tries) := by
  have f := fun j u hu => ownsRow_cell h.row (flatMap_at holeCells_len l r o j u ho hu)
  exact ⟨f 0 _ rfl, f 1 _ rfl, f 2 _ rfl, f 3 _ rfl⟩
/-- another slice -/
theorem GpAt.setV {w : World} {b : Nat} {v v' : Value} {l' : List Hole} {f lg : Int} (h : Blk w b #[.int .i64 f, .int .i64 lg, v] 58) (ho : w.ownsRow 0 62 4 v' l'.length (l'.flatMap holeCells)) (hg : ∀ g, v'.ownBlock = some g → g ≠ b) :
    GpAt (w.setCell ⟨b, 2, none⟩ v') b v' l' f lg :=
  ⟨h.set' (by simp), ownsRow_keep ho ((Keep.refl (fun k => k = b) w).setCell (.inl rfl) _) (fun g hg' e => hg g hg' e)⟩
theorem hole_one : ∀ x : Hole, ∀ v ∈ holeCells x, v.oneCell' = true := by
  intro x v hv
  simp [holeCells] at hv
  rcases hv with rfl | rfl | rfl | rfl <;> rfl
theorem holes_one (l : List Hole) : ∀ u ∈ l.flatMap holeCells, u.oneCell' = true := by
  intro u hu
  obtain ⟨x, -, hx⟩ := List.mem_flatMap.1 hu
  exact hole_one x u hx

/-- what a method leaves that changes the holes -/
def Chg (w w' : World) (b : Nat) (v : Value) (l' : List Hole) (f lg : Int) : Prop :=
  ∃ v', GpAt w' b v' l' f lg ∧ (∀ g, v'.ownBlock = some g → v.ownBlock = some g ∨ w.heap.size ≤ g) ∧ Keep (fun k => k = b ∨ v.ownBlock = some k) w w'

theorem new_ok (f lg : Int) (w : World) (h1 : 1 ≤ f) (h2 : f ≤ 65536) (h3 : f ≤ lg) (h4 : lg ≤ 1048576) :
    Calls Try.prog 7 #[.int .i64 f, .int .i64 lg] w fun e w' => e = .returned (.tuple #[.pointer (some ⟨w.heap.size, 0, none⟩), .int .i64 0]) ∧ GpAt w' w.heap.size (.slice none 0 0) [] f lg ∧ Below w.heap.size w w' := by
  go_enter Try.func7, Try.ntmps7
  go_wp2
  go_ret2
  exact ⟨rfl, ⟨Blk.new w _ _, ⟨rfl, .inl ⟨rfl, rfl⟩⟩⟩, (Below.refl _ w).alloc (Nat.le_refl _) _⟩
theorem new_no (f lg : Int) (w : World) (h : f < 1 ∨ 65536 < f ∨ lg < f ∨ 1048576 < lg) :
    Calls Try.prog 7 #[.int .i64 f, .int .i64 lg] w fun e w' => e = .returned (.tuple #[.pointer none, .int .i64 11]) ∧ w = w' := by
  rcases (by omega : f < 1 ∨ (1 ≤ f ∧ 65536 < f) ∨ (1 ≤ f ∧ f ≤ 65536 ∧ lg < f) ∨ (1 ≤ f ∧ f ≤ 65536 ∧ f ≤ lg ∧ 1048576 < lg)) with g | ⟨g, g1⟩ | ⟨g, g1, g2⟩ | ⟨g, g1, g2, g3⟩
  all_goals
    clear h
    go_enter Try.func7, Try.ntmps7
    go_wp2
    go_ret2
    exact ⟨rfl, rfl⟩

theorem len_any (b : Nat) (v : Value) (l : List Hole) (f lg : Int) (w : World) (h : GpAt w b v l f lg) :
    Calls Try.prog 19 #[.pointer (some ⟨b, 0, none⟩)] w fun e w' => e = .returned (.int .i64 l.length) ∧ w = w' := by
  obtain ⟨A, k, rfl⟩ := h.slice
  obtain ⟨c0, c1, c2⟩ := blk3 h.str
  clear h
  go_enter Try.func19, Try.ntmps19
  go_wp2
  go_ret
  exact ⟨rfl, rfl⟩

theorem time_any (n : Int) (w : World) : Calls Try.prog 21 #[.int .i64 n] w fun e w' => e = .returned (.bool (inT n)) ∧ w = w' := by
  have hb : inT n = (if 0 ≤ n then decide (n ≤ 1099511627776) else false) := by unfold inT; split <;> simp [*]
  rw [hb]
  clear hb
  by_cases h : 0 ≤ n
  · rw [if_pos h]
    go_enter Try.func21, Try.ntmps21
    go_wp2
    go_ret
    exact ⟨rfl, rfl⟩
  · rw [if_neg h]
    go_enter Try.func21, Try.ntmps21
    go_wp2
    go_ret
    exact ⟨rfl, rfl⟩

set_option maxRecDepth 100000 in
theorem find_any (b : Nat) (v : Value) (l : List Hole) (f lg r : Int) (w : World) (h : GpAt w b v l f lg) (hr : Rising l) (hn : l.length ≤ 100000) :
    Calls Try.prog 22 #[.pointer (some ⟨b, 0, none⟩), .int .i64 r] w fun e w' => ∃ p, Parts l r p ∧ e = .returned (.tuple #[.int .i64 p, .bool (has l r)]) ∧ Below w.heap.size w w' := by
  obtain ⟨A, k, rfl⟩ := h.slice
  obtain ⟨c0, c1, c2⟩ := blk3 h.str
  have HS := Lib.hid (search_any (.slice A l.length k) l r w h.holes hr (by omega))
  have HR := Lib.hid hr
  clear h hr
  go_enter Try.func22, Try.ntmps22
  go_wp2_with fail
  refine HS.out.mono ?_
  rintro e w1 ⟨p, hp, rfl, hb⟩
  have he : hit l r p = has l r := hit_lk HR.out hp
  rw [he]
  clear he
  go_wp2
  go_ret2
  exact ⟨p, hp, rfl, hb⟩

theorem holes_any (b : Nat) (v : Value) (l : List Hole) (f lg : Int) (w : World) (h : GpAt w b v l f lg) (hn : l.length ≤ 100000) :
    Calls Try.prog 31 #[.pointer (some ⟨b, 0, none⟩)] w fun e w' => ∃ A c, e = .returned (.slice A l.length c) ∧ w'.ownsRow w.heap.size 62 4 (.slice A l.length c) l.length (l.flatMap holeCells) ∧ Below w.heap.size w w' := by
  have hc := clone_hole v l.length (l.flatMap holeCells) w h.holes (by omega) (holes_one l)
  obtain ⟨A, k, rfl⟩ := h.slice
  obtain ⟨c0, c1, c2⟩ := blk3 h.str
  have HC := Lib.hid hc
  clear h hc
  go_enter Try.func31, Try.ntmps31
  go_wp2_with fail
  refine HC.out.mono ?_
  rintro e w1 ⟨A1, c1', rfl, ho, hb, -⟩
  go_wp2
  go_ret
  exact ⟨_, _, rfl, ho, hb⟩

set_option maxRecDepth 100000 in
theorem drop_no (b : Nat) (v : Value) (l : List Hole) (f lg r : Int) (w : World) (h : GpAt w b v l f lg) (hr : Rising l) (hn : l.length ≤ 100000) (hs : has l r = false) :
    Calls Try.prog 17 #[.pointer (some ⟨b, 0, none⟩), .int .i64 r] w fun e w' => e = .returned (.bool false) ∧ Below w.heap.size w w' := by
  have hf := find_any b v l f lg r w h hr hn
  rw [hs] at hf
  have HF := Lib.hid hf
  clear hf h hr
  go_enter Try.func17, Try.ntmps17
  go_wp2_with fail
  refine HF.out.mono ?_
  rintro e w1 ⟨p, hp, rfl, hb1⟩
  go_wp2
  go_ret
  exact ⟨rfl, hb1⟩

set_option maxRecDepth 100000 in
set_option maxHeartbeats 1000000 in
theorem drop_yes (b : Nat) (v : Value) (l : List Hole) (f lg r : Int) (w : World) (h : GpAt w b v l f lg) (hr : Rising l) (hn : l.length ≤ 100000) (hs : has l r = true) :
    Calls Try.prog 17 #[.pointer (some ⟨b, 0, none⟩), .int .i64 r] w fun e w' => e = .returned (.bool true) ∧ Chg w w' b v (drp l r) f lg := by
  have hf := find_any b v l f lg r w h hr hn
  rw [hs] at hf
  have HF := Lib.hid hf
  have H := Lib.hid h
  obtain ⟨o, ho⟩ := Option.isSome_iff_exists.1 hs
  rcases h.row.2 with ⟨hv0, hx⟩ | ⟨g, cap, cur, hv, -⟩
  · have := List.eq_nil_of_length_eq_zero hx
    subst this
    cases hs
  subst hv
  have hne := h.ne (g := g) rfl
  have HRI := Lib.hid hr
  clear hf h hr
  go_enter Try.func17, Try.ntmps17
  go_wp2_with fail
  refine HF.out.mono ?_
  rintro e w1 ⟨p, hp, rfl, hb1⟩
  have H1 := Lib.hid (H.out.below hb1)
  have hat := hit_some HRI.out hp ho
  have hpl := (List.getElem?_eq_some_iff.1 hat).1
  obtain ⟨m, hm⟩ : ∃ m, l.length = m + 1 := ⟨l.length - 1, by omega⟩
  have hrow := H1.out.row
  have hof := ((lk_some HRI.out).1 ho).2
  have he := erase_drp HRI.out hat
  rw [hof] at he
  have HE := Lib.hid he
  have hD := fun h => delete_hole 0 g m p cap l w1 hm (by omega) hole_one (by omega) h
  have hstr := H1.out.str
  rw [hm] at hrow hstr
  have HD := Lib.hid (hD hrow)
  obtain ⟨c0, c1, c2⟩ := blk3 hstr
  have HS := Lib.hid hstr
  have HB1 := Lib.hid hb1
  have fz := hstr.frozen 2
  have i1 : (0 : Int) ≤ (p : Int) := by omega
  have hm3 : p ≤ m := by omega
  have hp1 : IntKind.i64.wrap ((p : Int) + 1) = (p : Int) + 1 := IntWalk.i64_in _ (by omega)
  have HM := Lib.hid hm
  have HAT := Lib.hid hat
  clear hD hrow hstr hb1 hat hpl hm hp he hof
  go_wp2_with fail
  refine HD.out.mono ?_
  rintro e w2 ⟨rfl, ho2, hk2⟩
  have hs2 := HS.out.keep hk2 (fun e => hne.1 e.symm)
  obtain ⟨d0, d1, d2⟩ := blk3 hs2
  have e2 := hs2.frozen 2
  have hel : (erase1 l p).length = m := by have := HM.out; have := (List.getElem?_eq_some_iff.1 HAT.out).1; unfold erase1; simp; omega
  have H3 := Lib.hid (GpAt.setV hs2 (by rw [hel]; exact ho2) (fun g' h e => by cases h; exact hne.1 e))
  have K3 : Hid (Keep (fun k => k = b ∨ (Value.slice (some ⟨g, 0, none⟩) l.length cap).ownBlock = some k) w (w2.setCell ⟨b, 2, none⟩ (.slice (some ⟨g, 0, none⟩) m cap))) :=
    ((Keep.ofBelowAll HB1.out).trans (hk2.mono (fun k _ h => (.inr (by rw [h]; rfl) : k = b ∨ (Value.slice (some ⟨g, 0, none⟩) l.length cap).ownBlock = some k))) (fun k _ h => h)).setCell (p := ⟨b, 2, none⟩) (.inl (.inl rfl)) _
  clear hs2 ho2 hk2 c0 c1 c2 hel
  go_wp2
  go_ret
  refine ⟨rfl, ⟨.slice (some ⟨g, 0, none⟩) m cap, ?_, fun g' h => .inl h, K3.out⟩⟩
  rw [← HE.out]
  exact H3.out

theorem chg_same {w w' : World} {b : Nat} {v : Value} {l : List Hole} {f lg : Int} (h : GpAt w b v l f lg) (hb : Below w.heap.size w w') : Chg w w' b v l f lg := ⟨v, h.below hb, fun g hg => .inl hg, Keep.ofBelowAll hb⟩
theorem drop_any (b : Nat) (v : Value) (l : List Hole) (f lg r : Int) (w : World) (h : GpAt w b v l f lg) (hr : Rising l) (hn : l.length ≤ 100000) :
    Calls Try.prog 17 #[.pointer (some ⟨b, 0, none⟩), .int .i64 r] w fun e w' => e = .returned (.bool (has l r)) ∧ Chg w w' b v (drp l r) f lg := by
  cases hs : has l r with
  | true => exact drop_yes b v l f lg r w h hr hn hs
  | false =>
    refine (drop_no b v l f lg r w h hr hn hs).mono ?_
    rintro e w' ⟨rfl, hb⟩
    rw [drp_none hs]
    exact ⟨rfl, chg_same h hb⟩
theorem got_any (b : Nat) (v : Value) (l : List Hole) (f lg r : Int) (w : World) (h : GpAt w b v l f lg) (hr : Rising l) (hn : l.length ≤ 100000) :
    Calls Try.prog 20 #[.pointer (some ⟨b, 0, none⟩), .int .i64 r] w fun e w' => e = .returned (.bool (has l r)) ∧ Chg w w' b v (drp l r) f lg := by
  have HD := Lib.hid (drop_any b v l f lg r w h hr hn)
  clear h hr
  generalize has l r = s at *
  generalize drp l r = l' at *
  go_enter Try.func20, Try.ntmps20
  go_wp2_with fail
  refine HD.out.mono ?_
  rintro e w1 ⟨rfl, hc⟩
  go_wp2
  go_ret
  exact ⟨rfl, hc⟩
end Go.Proofs.Ytkgngmmlfoiajaa
