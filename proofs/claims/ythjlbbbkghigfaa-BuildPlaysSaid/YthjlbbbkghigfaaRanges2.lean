/- ranges: a set in memory: New, Len, Stretches, from, right, lay. -/
import Derived.Test.YthjlbbbkghigfaaRanges
import Derived.Test.YthjlbbbkghigfaaRgPlain2
import Derived.Test.YthjlbbbkghigfaaPairEq
import Derived.Test.YthjlbbbkghigfaaApp2
import Derived.BigRegion
import Derived.BigQuiet
import Derived.Lib.MinMax
namespace Go.Proofs.Ythjlbbbkghigfaa
open Go.RowKit
set_option linter.unusedVariables false
set_option linter.unusedSimpArgs false

/-- a set in memory: the struct in block b, its stretches in the slice v, the count N -/
structure SetAt (w : World) (b : Nat) (v : Value) (l : List (Int × Int)) (N : Int) : Prop where
  str : Blk w b #[v, .int .i64 N] 81
  row : w.ownsRow 0 46 2 v l.length (l.flatMap pairCells)
theorem SetAt.keep {S : Nat → Prop} {w w' : World} {b : Nat} {v : Value} {l : List (Int × Int)} {N : Int} (h : SetAt w b v l N) (hk : Keep S w w') (hb : ¬ S b) (hv : ∀ g, v.ownBlock = some g → ¬ S g) : SetAt w' b v l N :=
  ⟨h.str.keep hk hb, ownsRow_keep h.row hk hv⟩
theorem SetAt.below {w w' : World} {b : Nat} {v : Value} {l : List (Int × Int)} {N : Int} (h : SetAt w b v l N) (hb : Below w.heap.size w w') : SetAt w' b v l N := h.keep (Keep.none hb) id (fun _ _ => id)
theorem SetAt.drewN {w : World} {b : Nat} {v : Value} {l : List (Int × Int)} {N : Int} (h : SetAt w b v l N) (n : Nat) : SetAt (w.drewN n) b v l N := ⟨h.str, h.row⟩
theorem SetAt.drew {w : World} {b : Nat} {v : Value} {l : List (Int × Int)} {N : Int} (h : SetAt w b v l N) : SetAt w.drew b v l N := ⟨h.str, h.row⟩
theorem SetAt.slice {w : World} {b : Nat} {v : Value} {l : List (Int × Int)} {N : Int} (h : SetAt w b v l N) : ∃ A k, v = .slice A l.length k := ownsRow_slice h.row
theorem SetAt.rd {w : World} {b : Nat} {v : Value} {l : List (Int × Int)} {N : Int} (h : SetAt w b v l N) : Reads w 2 v l.length (l.flatMap pairCells) := Reads.of_owns h.row
theorem SetAt.c {w : World} {b : Nat} {v : Value} {l : List (Int × Int)} {N : Int} (h : SetAt w b v l N) : w.cell? ⟨b, 0, none⟩ = some v ∧ w.cell? ⟨b, 1, none⟩ = some (.int .i64 N) := ⟨h.str.cell 0 rfl, h.str.cell 1 rfl⟩
/-- its two blocks differ -/
theorem SetAt.ne {w : World} {b : Nat} {v : Value} {l : List (Int × Int)} {N : Int} (h : SetAt w b v l N) {g : Nat} (hg : v.ownBlock = some g) : g ≠ b ∧ g < w.heap.size := by
  rcases h.row.2 with ⟨rfl, _⟩ | ⟨g', cap, cur, rfl, h1, hh, _⟩
  · cases hg
  · cases hg
    refine ⟨fun e => ?_, (Array.getElem?_eq_some_iff.1 hh).1⟩
    subst e
    have := h.str
    unfold Blk at this
    rw [hh] at this
    cases this
theorem SetAt.setN {w : World} {b : Nat} {v : Value} {l : List (Int × Int)} {N : Int} (h : SetAt w b v l N) (N' : Int) : SetAt (w.setCell ⟨b, 1, none⟩ (.int .i64 N')) b v l N' :=
  ⟨h.str.set' (by simp), ownsRow_keep h.row ((Keep.refl (fun k => k = b) w).setCell (.inl rfl) _) (fun g hg e => (h.ne hg).1 e)⟩
theorem SetAt.setV {w : World} {b : Nat} {v v' : Value} {l' : List (Int × Int)} {N : Int} (h : Blk w b #[v, .int .i64 N] 81) (ho : w.ownsRow 0 46 2 v' l'.length (l'.flatMap pairCells)) (hg : ∀ g, v'.ownBlock = some g → g ≠ b) :
    SetAt (w.setCell ⟨b, 0, none⟩ v') b v' l' N :=
  ⟨h.set' (by simp), ownsRow_keep ho ((Keep.refl (fun k => k = b) w).setCell (.inl rfl) _) (fun g hg' e => hg g hg' e)⟩

theorem new_any (w : World) : Calls Try.prog 27 #[] w fun e w' => e = .returned (.pointer (some ⟨w.heap.size, 0, none⟩)) ∧ SetAt w' w.heap.size (.slice none 0 0) [] 0 ∧ Below w.heap.size w w' := by
  go_enter Try.func27, Try.ntmps27
  go_wp2
  go_ret
  exact ⟨rfl, ⟨Blk.new w _ _, ⟨rfl, .inl ⟨rfl, rfl⟩⟩⟩, (Below.refl _ w).alloc (Nat.le_refl _) _⟩
def rightB (a b : Int) : Bool := decide (0 ≤ a) && decide (b ≤ 16384) && decide (a ≤ b)
theorem rightB_iff {a b : Int} : rightB a b = true ↔ 0 ≤ a ∧ b ≤ 16384 ∧ a ≤ b := by unfold rightB; simp; omega
theorem right_any (a b : Int) (w : World) : Calls Try.prog 43 #[.int .i64 a, .int .i64 b] w fun e w' => e = .returned (.bool (rightB a b)) ∧ w = w' := by
  unfold rightB
  by_cases h1 : 0 ≤ a
  · by_cases h2 : b ≤ 16384
    · rw [decide_eq_true h1, decide_eq_true h2, Bool.true_and, Bool.true_and]
      go_enter Try.func43, Try.ntmps43
      go_wp2
      go_ret
      exact ⟨rfl, rfl⟩
    · rw [decide_eq_false h2, Bool.and_false, Bool.false_and]
      go_enter Try.func43, Try.ntmps43
      go_wp2
      go_ret
      exact ⟨rfl, rfl⟩
  · rw [decide_eq_false h1, Bool.false_and, Bool.false_and]
    go_enter Try.func43, Try.ntmps43
    go_wp2
    go_ret
    exact ⟨rfl, rfl⟩
/-- what from tells -/
def FromR (l : List (Int × Int)) (t : Int) (w w' : World) (e : Ending) : Prop := ∃ p : Nat, p ≤ l.length ∧ Hid (0 ≤ t → Parts l t p) ∧ e = .returned (.int .i64 p) ∧ Below w.heap.size w w'
set_option maxRecDepth 100000 in
theorem from_any (b : Nat) (v : Value) (l : List (Int × Int)) (N t : Int) (w : World) (h : SetAt w b v l N) (hg : Good (-1) l) (hn : l.length ≤ 100000) (ht : t ≤ 9223372036854775807) :
    Calls Try.prog 44 #[.pointer (some ⟨b, 0, none⟩), .int .i64 t] w fun e w' => FromR l t w w' e := by
  have HS := Lib.hid (search_any v l t w h.rd hg (by omega) ht)
  obtain ⟨A, k, rfl⟩ := h.slice
  obtain ⟨c0, c1⟩ := h.c
  clear h hg
  go_enter Try.func44, Try.ntmps44
  go_wp2_with fail
  refine HS.out.mono ?_
  rintro e w1 ⟨p, bo, hp, hpt, rfl, hb⟩
  go_wp2
  go_ret
  exact ⟨p, hp, hpt, rfl, hb⟩

/-- what Replace leaves -/
def RepR (w w' : World) (e : Ending) (v : Value) (l' : List (Int × Int)) : Prop := ∃ A c, e = .returned (.slice A l'.length c) ∧ w'.ownsRow 0 46 2 (.slice A l'.length c) l'.length (l'.flatMap pairCells) ∧ Keep (fun k => v.ownBlock = some k) w w' ∧ (∀ g, (Value.slice A l'.length c).ownBlock = some g → v.ownBlock = some g ∨ w.heap.size ≤ g)
/-- what lay leaves -/
def LayR (w w' : World) (e : Ending) (b : Nat) (v : Value) (l' : List (Int × Int)) (N N' : Int) : Prop := ∃ v', e = .returned (.int .i64 (N' - N)) ∧ SetAt w' b v' l' N' ∧ (∀ g, v'.ownBlock = some g → v.ownBlock = some g ∨ w.heap.size ≤ g) ∧ Keep (fun k => k = b ∨ v.ownBlock = some k) w w'
theorem good_sub {l : List (Int × Int)} (g : Good (-1) l) (p q : Nat) : 0 ≤ tot ((l.take q).drop p) ∧ tot ((l.take q).drop p) ≤ 16384 := by
  obtain ⟨h1, h2⟩ := ((g.take q).drop p).tot
  refine ⟨h1, ?_⟩
  rcases h2 with h2 | h2
  · rw [h2, tot_nil]; omega
  · omega
theorem tot_sub {l : List (Int × Int)} (g : Good (-1) l) (p q : Nat) : tot ((l.take q).drop p) ≤ tot l := by
  have h1 := List.take_append_drop p (l.take q)
  have h2 := List.take_append_drop q l
  have h3 : tot l = tot ((l.take q).take p) + tot ((l.take q).drop p) + tot (l.drop q) := by rw [← tot_append, h1, ← tot_append, h2]
  have := ((g.take q).take p).tot.1
  have := (g.drop q).tot.1
  omega
set_option maxRecDepth 100000 in
set_option maxHeartbeats 4000000 in
theorem lay_any (b : Nat) (v : Value) (l new : List (Int × Int)) (p q m : Nat) (nA : Option Addr) (nc : Nat) (w : World) (h : SetAt w b v l (tot l)) (hg : Good (-1) l) (hn : l.length ≤ 100000) (hpq : p ≤ q) (hq : q ≤ l.length) (hr : Reads w 2 (.slice nA m nc) m (new.flatMap pairCells)) (hm : m = new.length) (hm3 : m ≤ 3)
    (hnb : ∀ g, (Value.slice nA m nc).ownBlock = some g → 0 < m → g ≠ b) (hnew : ∀ x ∈ new, 0 ≤ x.1 ∧ x.1 ≤ x.2 ∧ x.2 ≤ 16384) (hrep : ∀ w', SetAt w' b v l (tot l - tot ((l.take q).drop p) + tot new) → Keep (fun k => k = b) w w' → Calls Try.prog 50 #[v, .int .i64 p, .int .i64 q, .slice nA m nc] w' fun e w'' => RepR w' w'' e v (rep l p q new)) :
    Calls Try.prog 45 #[.pointer (some ⟨b, 0, none⟩), .int .i64 p, .int .i64 q, .slice nA m nc] w fun e w' => LayR w w' e b v (rep l p q new) (tot l) (tot (rep l p q new)) := by
  have HREP := Lib.hid hrep
  have HNEW := Lib.hid hnew
  have HG := Lib.hid hg
  have HR := Lib.hid hr
  have HNB := Lib.hid hnb
  have HM := Lib.hid hm
  have HT := Lib.hid (tot_rep (l := l) (new := new) hpq)
  have HVN := Lib.hid (fun g hg => (h.ne (g := g) hg).1)
  have hbw : b < w.heap.size := h.str.lt
  obtain ⟨t1, t2⟩ := good_sub hg 0 l.length
  rw [List.take_length, List.drop_zero] at t1 t2
  obtain ⟨T, hTT⟩ : ∃ T, T = tot l := ⟨_, rfl⟩
  have HTT := Lib.hid hTT
  rw [← hTT] at t1 t2 h
  obtain ⟨n, hnn⟩ : ∃ n, n = l.length := ⟨_, rfl⟩
  have HN := Lib.hid hnn
  have H := Lib.hid h
  obtain ⟨c0, c1⟩ := h.c
  clear hrep hnew hg hr hnb hm hTT
  rcases h.row.2 with ⟨hv, hz⟩ | ⟨g, cap, cur, hv, hgb, hh, hnc, hcm, hcs, htk⟩
  · subst hv
    rw [← hnn] at hz hq hn
    subst hz
    obtain rfl : q = 0 := by omega
    obtain rfl : p = 0 := by omega
    clear h hnn
    go_enter Try.func45, Try.ntmps45
    go_wp2_with fail
    go_loopw [11, 26] (fun _ i wr => ∃ (k : Nat) (N : Int), k ≤ 0 ∧ i = .int .i64 k ∧ 0 ≤ N ∧ N ≤ 16384 ∧ Hid (N = T - tot ((l.take (0 + k)).drop 0)) ∧ Hid (SetAt wr b (.slice none 0 0) l N) ∧ Hid (Keep (fun k => k = b) w wr)) (fun _ i _ => (0) - (intOf i).toNat)
    case atStart => exact ⟨0, T, by omega, by first | rfl | simp, t1, t2, Lib.hid (by rw [List.drop_of_length_le (by rw [List.length_take]; omega), tot_nil]; omega), H, Keep.refl _ _⟩
    case round =>
      obtain ⟨k, N, hk, rfl, N1, N2, HNE, HS, HK⟩ := hrel
      obtain rfl : k = 0 := by omega
      have hmid : tot ((l.take (0 + 0)).drop 0) = tot ((l.take 0).drop 0) := by rw [show 0 + 0 = 0 by omega]
      obtain ⟨M, hM⟩ : ∃ M, M = tot ((l.take 0).drop 0) := ⟨_, rfl⟩
      have HMM := Lib.hid hM
      have hNM : N = T - M := by rw [HNE.out, hmid, hM]
      have HNM := Lib.hid hNM
      obtain ⟨w8, hw8⟩ : ∃ w8 : World, w8 = wr := ⟨_, rfl⟩
      rw [← hw8] at HS HK ⊢
      clear hmid hM hNM HNE hw8
      go_wp2_with fail
      go_loopw [13, 45] (fun _ i wr => ∃ (k2 : Nat) (N2 : Int), k2 ≤ m ∧ i = .int .i64 k2 ∧ 0 ≤ N2 ∧ N2 ≤ 16384 + 16384 * k2 ∧ Hid (N2 = N + tot (new.take k2)) ∧ Hid (SetAt wr b (.slice none 0 0) l N2) ∧ Hid (Keep (fun k => k = b) w wr)) (fun _ i _ => m - (intOf i).toNat)
      case atStart => exact ⟨0, N, by omega, rfl, N1, by omega, Lib.hid (by rw [List.take_zero, tot_nil]; omega), HS, HK⟩
      case round =>
        obtain ⟨k2, N2, hk2, rfl, M1, M2, HNE, HS, HK⟩ := hrel
        by_cases hlt2 : k2 < m
        · obtain ⟨x, hx⟩ : ∃ x, new[k2]? = some x := ⟨_, List.getElem?_eq_getElem (by rw [← HM.out]; exact hlt2)⟩
          obtain ⟨gx, px, cx, hex, y0, y1⟩ := (HR.out.keep HK.out HNB.out).pair hx
          cases hex
          obtain ⟨g1, g2, g3⟩ := HNEW.out x (List.mem_of_getElem? hx)
          have HN' : Hid (N2 + (x.2 - x.1) = N + tot (new.take (k2 + 1))) := by
            show _ = _
            rw [List.take_add_one, hx, Option.toList_some, tot_append, tot_cons, tot_nil, HNE.out]; omega
          have i1 : (0 : Int) ≤ (k2 : Int) := by omega
          have i2 : (k2 : Int) < (m : Int) := by omega
          obtain ⟨e0, e1⟩ := HS.out.c
          have ef := HS.out.str.frozen 1
          have hbr : b < wr.heap.size := HS.out.str.lt
          clear hx
          go_wp2_with fail
          have hS2 := HS.out.below ((Below.refl _ wr).alloc (Nat.le_refl _) (.cells #[.int .i64 x.1, .int .i64 x.2] 46))
          have hK2 : Keep (fun k => k = b) w (wr.alloc (.cells #[.int .i64 x.1, .int .i64 x.2] 46)) := HK.out.alloc _
          have hB2 := Blk.new wr #[.int .i64 x.1, .int .i64 x.2] 46
          have hne : wr.heap.size ≠ b := by omega
          have hne2 : b ≠ wr.heap.size := by omega
          have hls : wr.heap.size < (wr.alloc (.cells #[.int .i64 x.1, .int .i64 x.2] 46)).heap.size := by simp
          generalize wr.alloc (.cells #[.int .i64 x.1, .int .i64 x.2] 46) = wa at *
          obtain ⟨z0, z1⟩ := hS2.c
          have zf := hS2.str.frozen 1
          have x0 := hB2.cell 0 (v := .int .i64 x.1) rfl
          have x1 := hB2.cell 1 (v := .int .i64 x.2) rfl
          have HS2 := Lib.hid (hS2.setN (N2 + (x.2 - x.1))).drew
          have HK2 := Lib.hid (hK2.setCell (p := ⟨b, 1, none⟩) (.inl rfl) (.int .i64 (N2 + (x.2 - x.1)))).drew
          have W1 : IntKind.i64.wrap (x.2 - x.1) = x.2 - x.1 := IntWalk.i64_in _ (by omega)
          have W2 : IntKind.i64.wrap (N2 + (x.2 - x.1)) = N2 + (x.2 - x.1) := IntWalk.i64_in _ (by omega)
          clear hS2 hK2 hB2 e0 e1 y0 y1 ef
          go_region
          go_wp2
          go_roundw
          case rel => exact ⟨k2 + 1, N2 + (x.2 - x.1), by omega, by go_num, by omega, by omega, HN', HS2, HK2⟩
          case measure => simp [intOf]; omega
        · obtain rfl : k2 = m := by omega
          have hN2 : N2 = tot l - tot ((l.take 0).drop 0) + tot new := by rw [HNE.out, HNM.out, HTT.out, HMM.out, (List.take_of_length_le (by rw [← HM.out]; omega) : new.take k2 = new)]
          have hts := HS.out
          have hrp := HREP.out wr (by rw [← hN2]; exact hts) HK.out
          have HRP := Lib.hid hrp
          obtain ⟨e0, e1⟩ := HS.out.c
          have hN3 : N2 = tot (rep l 0 0 new) := by rw [HT.out, hN2]
          have HN3 := Lib.hid hN3
          clear hN2 hts hrp hN3
          go_wp2_with fail
          refine HRP.out.mono ?_
          rintro e w5 ⟨A5, c5, rfl, ho5, hk5, hno5⟩
          have hs5 := HS.out.str.keep hk5 (fun e => HVN.out b e rfl)
          have hne5 : ∀ g', (Value.slice A5 (rep l 0 0 new).length c5).ownBlock = some g' → g' ≠ b := fun g' hg e => (hno5 g' hg).elim (fun h => HVN.out g' h e) (fun h => by have := HS.out.str.lt; omega)
          have hS5 := SetAt.setV hs5 ho5 hne5
          have hno6 : ∀ g', (Value.slice A5 (rep l 0 0 new).length c5).ownBlock = some g' → (Value.slice none 0 0).ownBlock = some g' ∨ w.heap.size ≤ g' := fun g' hg => (hno5 g' hg).imp id (fun h => Nat.le_trans HK.out.size h)
          have hK5 : Keep (fun k => k = b ∨ (Value.slice none 0 0).ownBlock = some k) w (w5.setCell ⟨b, 0, none⟩ (.slice A5 (rep l 0 0 new).length c5)) := ((HK.out.mono (fun k _ h => .inl h)).trans (hk5.mono (fun k _ h => .inr h)) (fun k _ h => h)).setCell (p := ⟨b, 0, none⟩) (.inl (.inl rfl)) _
          have HS5 := Lib.hid hS5
          have HK5 := Lib.hid hK5
          have HNO := Lib.hid hno6
          have s0 := hs5.cell 0 rfl
          have s1 := hs5.cell 1 (v := .int .i64 N2) rfl
          have sf := hs5.frozen 0
          have hNT : IntKind.i64.wrap (N2 - T) = N2 - T := IntWalk.i64_in _ (by omega)
          have hb5 : b < w5.heap.size := hs5.lt
          clear hs5 ho5 hk5 hno5 hne5 hS5 hno6 hK5
          go_wp2
          go_ret
          refine ⟨_, ?_, by rw [← HN3.out]; exact HS5.out, HNO.out, HK5.out⟩
          rw [← HN3.out, ← HTT.out]; rfl

  rw [← hnn] at hv hnc hq hn
  subst hv
  have HH := hnc
  clear h hnn hh hcs htk hgb
  have i3 : (p : Int) ≤ (q : Int) := by omega
  have i4 : (q : Int) ≤ (n : Int) := by omega
  have i5 : (n : Int) ≤ (cap : Int) := by omega
  have i6 : (0 : Int) ≤ (p : Int) := by omega
  have i7 : (q : Int) ≤ (cap : Int) := by omega
  by_cases hcp : cap = p
  · have hqp : cap = q := by omega
    have hnp : cap = n := by omega
    subst hcp
    subst hqp
    subst hnp
    go_enter Try.func45, Try.ntmps45
    go_wp2_with fail
    go_loopw [11, 26] (fun _ i wr => ∃ (k : Nat) (N : Int), k ≤ 0 ∧ i = .int .i64 k ∧ 0 ≤ N ∧ N ≤ 16384 ∧ Hid (N = T - tot ((l.take (cap + k)).drop cap)) ∧ Hid (SetAt wr b (.slice (some ⟨g, 0, none⟩) cap cap) l N) ∧ Hid (Keep (fun k => k = b) w wr)) (fun _ i _ => (0) - (intOf i).toNat)
    case atStart => exact ⟨0, T, by omega, by first | rfl | simp, t1, t2, Lib.hid (by rw [List.drop_of_length_le (by rw [List.length_take]; omega), tot_nil]; omega), H, Keep.refl _ _⟩
    case round =>
      obtain ⟨k, N, hk, rfl, N1, N2, HNE, HS, HK⟩ := hrel
      obtain rfl : k = 0 := by omega
      have hmid : tot ((l.take (cap + 0)).drop cap) = tot ((l.take cap).drop cap) := by rw [show cap + 0 = cap by omega]
      obtain ⟨M, hM⟩ : ∃ M, M = tot ((l.take cap).drop cap) := ⟨_, rfl⟩
      have HMM := Lib.hid hM
      have hNM : N = T - M := by rw [HNE.out, hmid, hM]
      have HNM := Lib.hid hNM
      obtain ⟨w8, hw8⟩ : ∃ w8 : World, w8 = wr := ⟨_, rfl⟩
      rw [← hw8] at HS HK ⊢
      clear hmid hM hNM HNE hw8
      go_wp2_with fail
      go_loopw [13, 45] (fun _ i wr => ∃ (k2 : Nat) (N2 : Int), k2 ≤ m ∧ i = .int .i64 k2 ∧ 0 ≤ N2 ∧ N2 ≤ 16384 + 16384 * k2 ∧ Hid (N2 = N + tot (new.take k2)) ∧ Hid (SetAt wr b (.slice (some ⟨g, 0, none⟩) cap cap) l N2) ∧ Hid (Keep (fun k => k = b) w wr)) (fun _ i _ => m - (intOf i).toNat)
      case atStart => exact ⟨0, N, by omega, rfl, N1, by omega, Lib.hid (by rw [List.take_zero, tot_nil]; omega), HS, HK⟩
      case round =>
        obtain ⟨k2, N2, hk2, rfl, M1, M2, HNE, HS, HK⟩ := hrel
        by_cases hlt2 : k2 < m
        · obtain ⟨x, hx⟩ : ∃ x, new[k2]? = some x := ⟨_, List.getElem?_eq_getElem (by rw [← HM.out]; exact hlt2)⟩
          obtain ⟨gx, px, cx, hex, y0, y1⟩ := (HR.out.keep HK.out HNB.out).pair hx
          cases hex
          obtain ⟨g1, g2, g3⟩ := HNEW.out x (List.mem_of_getElem? hx)
          have HN' : Hid (N2 + (x.2 - x.1) = N + tot (new.take (k2 + 1))) := by
            show _ = _
            rw [List.take_add_one, hx, Option.toList_some, tot_append, tot_cons, tot_nil, HNE.out]; omega
          have i1 : (0 : Int) ≤ (k2 : Int) := by omega
          have i2 : (k2 : Int) < (m : Int) := by omega
          obtain ⟨e0, e1⟩ := HS.out.c
          have ef := HS.out.str.frozen 1
          have hbr : b < wr.heap.size := HS.out.str.lt
          clear hx
          go_wp2_with fail
          have hS2 := HS.out.below ((Below.refl _ wr).alloc (Nat.le_refl _) (.cells #[.int .i64 x.1, .int .i64 x.2] 46))
          have hK2 : Keep (fun k => k = b) w (wr.alloc (.cells #[.int .i64 x.1, .int .i64 x.2] 46)) := HK.out.alloc _
          have hB2 := Blk.new wr #[.int .i64 x.1, .int .i64 x.2] 46
          have hne : wr.heap.size ≠ b := by omega
          have hne2 : b ≠ wr.heap.size := by omega
          have hls : wr.heap.size < (wr.alloc (.cells #[.int .i64 x.1, .int .i64 x.2] 46)).heap.size := by simp
          generalize wr.alloc (.cells #[.int .i64 x.1, .int .i64 x.2] 46) = wa at *
          obtain ⟨z0, z1⟩ := hS2.c
          have zf := hS2.str.frozen 1
          have x0 := hB2.cell 0 (v := .int .i64 x.1) rfl
          have x1 := hB2.cell 1 (v := .int .i64 x.2) rfl
          have HS2 := Lib.hid (hS2.setN (N2 + (x.2 - x.1))).drew
          have HK2 := Lib.hid (hK2.setCell (p := ⟨b, 1, none⟩) (.inl rfl) (.int .i64 (N2 + (x.2 - x.1)))).drew
          have W1 : IntKind.i64.wrap (x.2 - x.1) = x.2 - x.1 := IntWalk.i64_in _ (by omega)
          have W2 : IntKind.i64.wrap (N2 + (x.2 - x.1)) = N2 + (x.2 - x.1) := IntWalk.i64_in _ (by omega)
          clear hS2 hK2 hB2 e0 e1 y0 y1 ef
          go_region
          go_wp2
          go_roundw
          case rel => exact ⟨k2 + 1, N2 + (x.2 - x.1), by omega, by go_num, by omega, by omega, HN', HS2, HK2⟩
          case measure => simp [intOf]; omega
        · obtain rfl : k2 = m := by omega
          have hN2 : N2 = tot l - tot ((l.take cap).drop cap) + tot new := by rw [HNE.out, HNM.out, HTT.out, HMM.out, (List.take_of_length_le (by rw [← HM.out]; omega) : new.take k2 = new)]
          have hts := HS.out
          have hrp := HREP.out wr (by rw [← hN2]; exact hts) HK.out
          have HRP := Lib.hid hrp
          obtain ⟨e0, e1⟩ := HS.out.c
          have hN3 : N2 = tot (rep l cap cap new) := by rw [HT.out, hN2]
          have HN3 := Lib.hid hN3
          clear hN2 hts hrp hN3
          go_wp2_with fail
          refine HRP.out.mono ?_
          rintro e w5 ⟨A5, c5, rfl, ho5, hk5, hno5⟩
          have hs5 := HS.out.str.keep hk5 (fun e => HVN.out b e rfl)
          have hne5 : ∀ g', (Value.slice A5 (rep l cap cap new).length c5).ownBlock = some g' → g' ≠ b := fun g' hg e => (hno5 g' hg).elim (fun h => HVN.out g' h e) (fun h => by have := HS.out.str.lt; omega)
          have hS5 := SetAt.setV hs5 ho5 hne5
          have hno6 : ∀ g', (Value.slice A5 (rep l cap cap new).length c5).ownBlock = some g' → (Value.slice (some ⟨g, 0, none⟩) cap cap).ownBlock = some g' ∨ w.heap.size ≤ g' := fun g' hg => (hno5 g' hg).imp id (fun h => Nat.le_trans HK.out.size h)
          have hK5 : Keep (fun k => k = b ∨ (Value.slice (some ⟨g, 0, none⟩) cap cap).ownBlock = some k) w (w5.setCell ⟨b, 0, none⟩ (.slice A5 (rep l cap cap new).length c5)) := ((HK.out.mono (fun k _ h => .inl h)).trans (hk5.mono (fun k _ h => .inr h)) (fun k _ h => h)).setCell (p := ⟨b, 0, none⟩) (.inl (.inl rfl)) _
          have HS5 := Lib.hid hS5
          have HK5 := Lib.hid hK5
          have HNO := Lib.hid hno6
          have s0 := hs5.cell 0 rfl
          have s1 := hs5.cell 1 (v := .int .i64 N2) rfl
          have sf := hs5.frozen 0
          have hNT : IntKind.i64.wrap (N2 - T) = N2 - T := IntWalk.i64_in _ (by omega)
          have hb5 : b < w5.heap.size := hs5.lt
          clear hs5 ho5 hk5 hno5 hne5 hS5 hno6 hK5
          go_wp2
          go_ret
          refine ⟨_, ?_, by rw [← HN3.out]; exact HS5.out, HNO.out, HK5.out⟩
          rw [← HN3.out, ← HTT.out]; rfl

  go_enter Try.func45, Try.ntmps45
  go_wp2_with fail
  go_loopw [11, 26] (fun _ i wr => ∃ (k : Nat) (N : Int), k ≤ q - p ∧ i = .int .i64 k ∧ 0 ≤ N ∧ N ≤ 16384 ∧ Hid (N = T - tot ((l.take (p + k)).drop p)) ∧ Hid (SetAt wr b (.slice (some ⟨g, 0, none⟩) n cap) l N) ∧ Hid (Keep (fun k => k = b) w wr)) (fun _ i _ => (q - p) - (intOf i).toNat)
  case atStart => exact ⟨0, T, by omega, rfl, t1, t2, Lib.hid (by rw [List.drop_of_length_le (by rw [List.length_take]; omega), tot_nil]; omega), H, Keep.refl _ _⟩
  case round =>
    obtain ⟨k, N, hk, rfl, N1, N2, HNE, HS, HK⟩ := hrel
    by_cases hlt : k < q - p
    · obtain ⟨x, hx⟩ : ∃ x, l[p + k]? = some x := ⟨_, List.getElem?_eq_getElem (by rw [← HN.out]; omega)⟩
      obtain ⟨gx, px, cx, hex, y0, y1⟩ := HS.out.rd.pair hx
      cases hex
      obtain ⟨g1, g2, g3⟩ := HG.out.mem x (List.mem_of_getElem? hx)
      have hmid : (l.take (p + (k + 1))).drop p = (l.take (p + k)).drop p ++ [x] := mid_snoc (q := p + k) (by omega) hx
      obtain ⟨sb1, sb2⟩ := good_sub HG.out p (p + (k + 1))
      have hN' : N - (x.2 - x.1) = T - tot ((l.take (p + (k + 1))).drop p) := by rw [hmid, tot_append, tot_cons, tot_nil, HNE.out]; omega
      have HN' := Lib.hid hN'
      have hNb : 0 ≤ N - (x.2 - x.1) := by
        have h2 := tot_sub HG.out p (p + (k + 1))
        rw [hN', HTT.out]
        omega
      have i1 : (0 : Int) ≤ (k : Int) := by omega
      have i2 : (k : Int) < ((q - p : Nat) : Int) := by omega
      obtain ⟨e0, e1⟩ := HS.out.c
      have ef := HS.out.str.frozen 1
      have hbr : b < wr.heap.size := HS.out.str.lt
      rw [show 0 + (p + k) * 2 = p * 2 + k * 2 by omega] at y0 y1
      clear hx hmid sb1 sb2 hN'
      go_wp2_with fail
      have hS2 := HS.out.below ((Below.refl _ wr).alloc (Nat.le_refl _) (.cells #[.int .i64 x.1, .int .i64 x.2] 46))
      have hK2 : Keep (fun k => k = b) w (wr.alloc (.cells #[.int .i64 x.1, .int .i64 x.2] 46)) := HK.out.alloc _
      have hB2 := Blk.new wr #[.int .i64 x.1, .int .i64 x.2] 46
      have hne : wr.heap.size ≠ b := by omega
      have hne2 : b ≠ wr.heap.size := by omega
      have hls : wr.heap.size < (wr.alloc (.cells #[.int .i64 x.1, .int .i64 x.2] 46)).heap.size := by simp
      generalize wr.alloc (.cells #[.int .i64 x.1, .int .i64 x.2] 46) = wa at *
      obtain ⟨z0, z1⟩ := hS2.c
      have zf := hS2.str.frozen 1
      have x0 := hB2.cell 0 (v := .int .i64 x.1) rfl
      have x1 := hB2.cell 1 (v := .int .i64 x.2) rfl
      have HS2 := Lib.hid (hS2.setN (N - (x.2 - x.1))).drew
      have HK2 := Lib.hid (hK2.setCell (p := ⟨b, 1, none⟩) (.inl rfl) (.int .i64 (N - (x.2 - x.1)))).drew
      have W1 : IntKind.i64.wrap (x.2 - x.1) = x.2 - x.1 := IntWalk.i64_in _ (by omega)
      have W2 : IntKind.i64.wrap (N - (x.2 - x.1)) = N - (x.2 - x.1) := IntWalk.i64_in _ (by omega)
      clear hS2 hK2 hB2 e0 e1 y0 y1 ef
      go_region
      go_wp2
      go_roundw
      case rel => exact ⟨k + 1, N - (x.2 - x.1), by omega, by go_num, hNb, by omega, HN', HS2, HK2⟩
      case measure => simp [intOf]; omega
    · obtain rfl : k = q - p := by omega
      have hmid : tot ((l.take (p + (q - p))).drop p) = tot ((l.take q).drop p) := by rw [show p + (q - p) = q by omega]
      obtain ⟨M, hM⟩ : ∃ M, M = tot ((l.take q).drop p) := ⟨_, rfl⟩
      have HMM := Lib.hid hM
      have hNM : N = T - M := by rw [HNE.out, hmid, hM]
      have HNM := Lib.hid hNM
      obtain ⟨w8, hw8⟩ : ∃ w8 : World, w8 = wr := ⟨_, rfl⟩
      rw [← hw8] at HS HK ⊢
      clear hmid hM hNM HNE hw8
      go_wp2_with fail
      go_loopw [13, 45] (fun _ i wr => ∃ (k2 : Nat) (N2 : Int), k2 ≤ m ∧ i = .int .i64 k2 ∧ 0 ≤ N2 ∧ N2 ≤ 16384 + 16384 * k2 ∧ Hid (N2 = N + tot (new.take k2)) ∧ Hid (SetAt wr b (.slice (some ⟨g, 0, none⟩) n cap) l N2) ∧ Hid (Keep (fun k => k = b) w wr)) (fun _ i _ => m - (intOf i).toNat)
      case atStart => exact ⟨0, N, by omega, rfl, N1, by omega, Lib.hid (by rw [List.take_zero, tot_nil]; omega), HS, HK⟩
      case round =>
        obtain ⟨k2, N2, hk2, rfl, M1, M2, HNE, HS, HK⟩ := hrel
        by_cases hlt2 : k2 < m
        · obtain ⟨x, hx⟩ : ∃ x, new[k2]? = some x := ⟨_, List.getElem?_eq_getElem (by rw [← HM.out]; exact hlt2)⟩
          obtain ⟨gx, px, cx, hex, y0, y1⟩ := (HR.out.keep HK.out HNB.out).pair hx
          cases hex
          obtain ⟨g1, g2, g3⟩ := HNEW.out x (List.mem_of_getElem? hx)
          have HN' : Hid (N2 + (x.2 - x.1) = N + tot (new.take (k2 + 1))) := by
            show _ = _
            rw [List.take_add_one, hx, Option.toList_some, tot_append, tot_cons, tot_nil, HNE.out]; omega
          have i1 : (0 : Int) ≤ (k2 : Int) := by omega
          have i2 : (k2 : Int) < (m : Int) := by omega
          obtain ⟨e0, e1⟩ := HS.out.c
          have ef := HS.out.str.frozen 1
          have hbr : b < wr.heap.size := HS.out.str.lt
          clear hx
          go_wp2_with fail
          have hS2 := HS.out.below ((Below.refl _ wr).alloc (Nat.le_refl _) (.cells #[.int .i64 x.1, .int .i64 x.2] 46))
          have hK2 : Keep (fun k => k = b) w (wr.alloc (.cells #[.int .i64 x.1, .int .i64 x.2] 46)) := HK.out.alloc _
          have hB2 := Blk.new wr #[.int .i64 x.1, .int .i64 x.2] 46
          have hne : wr.heap.size ≠ b := by omega
          have hne2 : b ≠ wr.heap.size := by omega
          have hls : wr.heap.size < (wr.alloc (.cells #[.int .i64 x.1, .int .i64 x.2] 46)).heap.size := by simp
          generalize wr.alloc (.cells #[.int .i64 x.1, .int .i64 x.2] 46) = wa at *
          obtain ⟨z0, z1⟩ := hS2.c
          have zf := hS2.str.frozen 1
          have x0 := hB2.cell 0 (v := .int .i64 x.1) rfl
          have x1 := hB2.cell 1 (v := .int .i64 x.2) rfl
          have HS2 := Lib.hid (hS2.setN (N2 + (x.2 - x.1))).drew
          have HK2 := Lib.hid (hK2.setCell (p := ⟨b, 1, none⟩) (.inl rfl) (.int .i64 (N2 + (x.2 - x.1)))).drew
          have W1 : IntKind.i64.wrap (x.2 - x.1) = x.2 - x.1 := IntWalk.i64_in _ (by omega)
          have W2 : IntKind.i64.wrap (N2 + (x.2 - x.1)) = N2 + (x.2 - x.1) := IntWalk.i64_in _ (by omega)
          clear hS2 hK2 hB2 e0 e1 y0 y1 ef
          go_region
          go_wp2
          go_roundw
          case rel => exact ⟨k2 + 1, N2 + (x.2 - x.1), by omega, by go_num, by omega, by omega, HN', HS2, HK2⟩
          case measure => simp [intOf]; omega
        · obtain rfl : k2 = m := by omega
          have hN2 : N2 = tot l - tot ((l.take q).drop p) + tot new := by rw [HNE.out, HNM.out, HTT.out, HMM.out, (List.take_of_length_le (by rw [← HM.out]; omega) : new.take k2 = new)]
          have hts := HS.out
          have hrp := HREP.out wr (by rw [← hN2]; exact hts) HK.out
          have HRP := Lib.hid hrp
          obtain ⟨e0, e1⟩ := HS.out.c
          have hN3 : N2 = tot (rep l p q new) := by rw [HT.out, hN2]
          have HN3 := Lib.hid hN3
          clear hN2 hts hrp hN3
          go_wp2_with fail
          refine HRP.out.mono ?_
          rintro e w5 ⟨A5, c5, rfl, ho5, hk5, hno5⟩
          have hs5 := HS.out.str.keep hk5 (fun e => HVN.out b e rfl)
          have hne5 : ∀ g', (Value.slice A5 (rep l p q new).length c5).ownBlock = some g' → g' ≠ b := fun g' hg e => (hno5 g' hg).elim (fun h => HVN.out g' h e) (fun h => by have := HS.out.str.lt; omega)
          have hS5 := SetAt.setV hs5 ho5 hne5
          have hno6 : ∀ g', (Value.slice A5 (rep l p q new).length c5).ownBlock = some g' → (Value.slice (some ⟨g, 0, none⟩) n cap).ownBlock = some g' ∨ w.heap.size ≤ g' := fun g' hg => (hno5 g' hg).imp id (fun h => Nat.le_trans HK.out.size h)
          have hK5 : Keep (fun k => k = b ∨ (Value.slice (some ⟨g, 0, none⟩) n cap).ownBlock = some k) w (w5.setCell ⟨b, 0, none⟩ (.slice A5 (rep l p q new).length c5)) := ((HK.out.mono (fun k _ h => .inl h)).trans (hk5.mono (fun k _ h => .inr h)) (fun k _ h => h)).setCell (p := ⟨b, 0, none⟩) (.inl (.inl rfl)) _
          have HS5 := Lib.hid hS5
          have HK5 := Lib.hid hK5
          have HNO := Lib.hid hno6
          have s0 := hs5.cell 0 rfl
          have s1 := hs5.cell 1 (v := .int .i64 N2) rfl
          have sf := hs5.frozen 0
          have hNT : IntKind.i64.wrap (N2 - T) = N2 - T := IntWalk.i64_in _ (by omega)
          have hb5 : b < w5.heap.size := hs5.lt
          clear hs5 ho5 hk5 hno5 hne5 hS5 hno6 hK5
          go_wp2
          go_ret
          refine ⟨_, ?_, by rw [← HN3.out]; exact HS5.out, HNO.out, HK5.out⟩
          rw [← HN3.out, ← HTT.out]; rfl
end Go.Proofs.Ythjlbbbkghigfaa
