/- clr: Leave, Pass. -/
import Derived.Test.YthnnhagccemnnaaClr8
namespace Go.Proofs.Ythnnhagccemnnaa
open Go.RowKit
set_option linter.unusedVariables false
set_option linter.unusedSimpArgs false

/-- what Leave leaves -/
structure Lv (w w' : World) (b : Nat) (v : Value) (l : List Told) (lim c r : Int) : Prop where
  ex : ∃ v' l', BkAt w' b v' l' lim (if c = r then -1 else c) ∧ (∀ x, lk l' x = if x = r then none else lk l x) ∧ l'.length + 1 = l.length ∧ v'.ownBlock = v.ownBlock
  kp : Keep (fun k => k = b ∨ v.ownBlock = some k) w w'

set_option maxRecDepth 100000 in
theorem leave_no (b : Nat) (v : Value) (l : List Told) (lim c r : Int) (w : World) (h : BkAt w b v l lim c) (hn : l.length ≤ 1000) (hs : (lk l r).isSome = false) :
    Calls Try.prog 21 #[.pointer (some ⟨b, 0, none⟩), .int .i64 r] w fun e w' => e = .returned (.bool false) ∧ Below w.heap.size w w' := by
  have hf := find_any b v l lim c r w h hn
  rw [hs] at hf
  have HF := Lib.hid hf
  clear hf h
  go_enter Try.func21, Try.ntmps21
  go_wp2_with fail
  refine HF.out.mono ?_
  rintro e w1 ⟨p, hp, rfl, hb1⟩
  go_wp2
  go_ret
  exact ⟨rfl, hb1⟩

set_option maxRecDepth 100000 in
set_option maxHeartbeats 1000000 in
theorem leave_yes (b : Nat) (v : Value) (l : List Told) (lim c r : Int) (w : World) (h : BkAt w b v l lim c) (hn : l.length ≤ 1000) (hs : (lk l r).isSome = true) :
    Calls Try.prog 21 #[.pointer (some ⟨b, 0, none⟩), .int .i64 r] w fun e w' => e = .returned (.bool (decide (c = r))) ∧ Lv w w' b v l lim c r := by
  have hf := find_any b v l lim c r w h hn
  rw [hs] at hf
  have HF := Lib.hid hf
  have H := Lib.hid h
  obtain ⟨o, ho⟩ := Option.isSome_iff_exists.1 hs
  rcases h.row.2 with ⟨hv0, hx⟩ | ⟨g, cap, cur, hv, -⟩
  · have := List.eq_nil_of_length_eq_zero hx
    subst this
    cases hs
  subst hv
  have hne := h.ne (g := g) rfl
  clear hf h
  go_enter Try.func21, Try.ntmps21
  go_wp2_with fail
  refine HF.out.mono ?_
  rintro e w1 ⟨p, hp, rfl, hb1⟩
  have H1 := Lib.hid (H.out.below hb1)
  have hat := hit_some H1.out.ris hp ho
  have hpl := (List.getElem?_eq_some_iff.1 hat).1
  obtain ⟨m, hm⟩ : ∃ m, l.length = m + 1 := ⟨l.length - 1, by omega⟩
  have hrow := H1.out.row
  have HE := Lib.hid (erase_lk H1.out.ris hat)
  have HER := Lib.hid (erase_rising H1.out.ris p)
  have hof := ((lk_some H1.out.ris).1 ho).2
  have hD := fun h => delete_told 0 g m p cap l w1 hm (by omega) told_one (by omega) h
  have hstr := H1.out.str
  rw [hm] at hrow hstr
  have HD := Lib.hid (hD hrow)
  obtain ⟨c0, c1, c2⟩ := blk3 hstr
  have HS := Lib.hid hstr
  have HB1 := Lib.hid hb1
  have fz := hstr.frozen 1
  have fz2 := hstr.frozen 2
  have i1 : (0 : Int) ≤ (p : Int) := by omega
  have hm3 : p ≤ m := by omega
  have hp1 : IntKind.i64.wrap ((p : Int) + 1) = (p : Int) + 1 := IntWalk.i64_in _ (by omega)
  have HM := Lib.hid hm
  have HAT := Lib.hid hat
  clear hD hrow hstr hb1 hat hpl hm hp
  go_wp2_with fail
  refine HD.out.mono ?_
  rintro e w2 ⟨rfl, ho2, hk2⟩
  have hs2 := HS.out.keep hk2 (fun e => hne.1 e.symm)
  obtain ⟨d0, d1, d2⟩ := blk3 hs2
  have e1 := hs2.frozen 1
  have e2 := hs2.frozen 2
  have hel : (erase1 l p).length = m := by have := HM.out; have := (List.getElem?_eq_some_iff.1 HAT.out).1; unfold erase1; simp; omega
  have H3 := Lib.hid (BkAt.setV hs2 (by rw [hel]; exact ho2) HER.out (fun g' h e => by cases h; exact hne.1 e))
  have K3 : Hid (Keep (fun k => k = b ∨ (Value.slice (some ⟨g, 0, none⟩) l.length cap).ownBlock = some k) w (w2.setCell ⟨b, 1, none⟩ (.slice (some ⟨g, 0, none⟩) m cap))) :=
    ((Keep.ofBelowAll HB1.out).trans (hk2.mono (fun k _ h => (.inr (by rw [h]; rfl) : k = b ∨ (Value.slice (some ⟨g, 0, none⟩) l.length cap).ownBlock = some k))) (fun k _ h => h)).setCell (p := ⟨b, 1, none⟩) (.inl (.inl rfl)) _
  have HEL := Lib.hid hel
  clear hs2 ho2 hk2 c0 c1 c2 hel
  by_cases hc : c = r
  · subst hc
    go_wp2
    go_ret
    refine ⟨rfl, ⟨⟨.slice (some ⟨g, 0, none⟩) m cap, erase1 l p, by rw [if_pos rfl]; exact H3.out.setC (-1), fun x => by rw [HE.out x, hof], by rw [HEL.out, HM.out], rfl⟩, ?_⟩⟩
    exact Keep.setCell K3 (.inl (.inl rfl)) _
  · have hc' : decide (c = r) = false := decide_eq_false hc
    go_wp2
    go_ret
    refine ⟨rfl, ⟨⟨.slice (some ⟨g, 0, none⟩) m cap, erase1 l p, by rw [if_neg hc]; exact H3.out, fun x => by rw [HE.out x, hof], by rw [HEL.out, HM.out], rfl⟩, ?_⟩⟩
    exact K3
end Go.Proofs.Ythnnhagccemnnaa
