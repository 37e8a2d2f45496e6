/- group: Members, Ask, Copy. -/
import Derived.Test.YtlodiibmofeikaaGroup2
import Derived.Test.YtlodiibmofeikaaCloneOne
namespace Go.Proofs.Ytlodiibmofeikaa
open Go.RowKit
set_option linter.unusedVariables false
set_option linter.unusedSimpArgs false

theorem info_int : (Try.prog.info? 3).map (fun i => (i.zero, i.size, i.bytes)) = some (some (.int .i64 0), 1, 8) := by kernel_rfl
/-- the members of a layer among the first k -/
def mem (l : List One) (layer now : Int) : Nat → List Int
  | 0 => []
  | k + 1 => if 0 ≤ layer ∧ layer ≤ (l.getD k one0).at now then mem l layer now k ++ [(k : Int)] else mem l layer now k
theorem mem_len (l : List One) (layer now : Int) (k : Nat) : (mem l layer now k).length ≤ k := by
  induction k with
  | zero => exact Nat.le_refl _
  | succ k ih =>
    unfold mem
    split
    · rw [List.length_append]; simp; exact ih
    · omega

set_option maxRecDepth 100000 in
set_option maxHeartbeats 400000 in
theorem members_any (b g c : Nat) (l : List One) (j lv layer now : Int) (w : World) (h : GrpAt w b g c l j lv) (hl : l.length ≤ 64) :
    Calls Try.prog 28 #[.pointer (some ⟨b, 0, none⟩), .int .i64 layer, .int .i64 now] w fun e w' => ∃ A cc, e = .returned (.slice A (mem l layer now l.length).length cc) ∧
      w'.ownsRow w.heap.size 3 1 (.slice A (mem l layer now l.length).length cc) (mem l layer now l.length).length ((mem l layer now l.length).map (Value.int .i64)) ∧ Below w.heap.size w w' := by
  obtain ⟨i0, hi, hz0, hz1, hz2⟩ := info_parts info_int
  obtain ⟨c0, -, -⟩ := h.cells
  have H := Lib.hid h
  clear h
  go_enter Try.func28, Try.ntmps28
  go_wp2
  go_loopw [7, 8, 9, 15] (fun o _ _ i wr => ∃ k : Nat, k ≤ l.length ∧ i = .int .i64 k ∧ Hid (wr.ownsRow w.heap.size 3 1 o (mem l layer now k).length ((mem l layer now k).map (Value.int .i64))) ∧ Below w.heap.size w wr) (fun _ _ _ i _ => l.length - (intOf i).toNat)
  case atStart => exact ⟨0, by omega, rfl, World.ownsRow_nil _ _ _ _, Below.refl _ _⟩
  case round =>
    clear c0
    obtain ⟨k, hk, rfl, hown, hb⟩ := hrel
    have hs := hb.size
    by_cases hlt : k < l.length
    · have hkl := mem_len l layer now k
      have ho := List.getElem?_eq_getElem hlt
      obtain ⟨o, hoe⟩ : ∃ o, o = l[k] := ⟨_, rfl⟩
      rw [← hoe] at ho
      have hgd : l.getD k one0 = o := by rw [List.getD_eq_getElem?_getD, ho]; rfl
      obtain ⟨o0, o1, o2, o3⟩ := (H.out.below hb).one ho
      have i1 : (0 : Int) ≤ (k : Int) := by omega
      have i2 : (k : Int) < (l.length : Int) := by omega
      have hd : mem l layer now (k + 1) = if 0 ≤ layer ∧ layer ≤ o.at now then mem l layer now k ++ [(k : Int)] else mem l layer now k := by rw [← hgd]; rfl
      clear hgd hoe ho
      by_cases d0 : 0 ≤ layer
      · by_cases d1 : layer ≤ o.at now
        · rw [if_pos ⟨d0, d1⟩] at hd
          have HD := Lib.hid hd
          clear hd
          go_wp2_with fail
          refine (at_any o now _).mono ?_
          rintro e w1 ⟨rfl, hb1⟩
          have HO1 := Lib.hid (ownsRow_keep ((Hid.out hown).alloc (.cells #[.int .i64 o.level, .int .i64 o.next, .int .i64 o.due, .int .i64 o.asked] 76)) (Keep.none hb1) (fun _ _ => id))
          have q1 : Below w.heap.size w w1 := (hb.alloc hs _).trans (hb1.mono (by simp; omega))
          have hs1 := q1.size
          clear hb1 o0 o1 o2 o3
          go_wp2_with (at_builtin; refine wpList_app1 rfl _ _ 81 rfl w.heap.size 3 i0 (.int .i64 0) 1 8 Try.underlying81 hi hz0 hz1 hz2 rfl _ (mem l layer now k).length _ rfl HO1.out #[.int .i64 (k : Int)] 1 rfl rfl (by intro u hu; simp at hu; subst hu; rfl) (by omega) (by omega) hs1 ?_; rintro A2 c2 w2 hown2 hk2 - -)
          have hb2 : Below w.heap.size w w2 := q1.trans (hk2.below (fun g hg => (HO1.out.lt g hg).1) hs1)
          have HO : Hid (w2.ownsRow w.heap.size 3 1 (.slice A2 ((mem l layer now k).length + 1) c2) (mem l layer now (k + 1)).length ((mem l layer now (k + 1)).map (Value.int .i64))) := by
            show World.ownsRow ..
            rw [HD.out, List.map_append, List.length_append]; exact hown2
          clear hown2 hk2
          go_wp2
          go_roundw
          case rel => exact ⟨k + 1, by omega, by go_num, HO, hb2⟩
          case measure => simp [intOf]; omega
        · rw [if_neg (fun h => d1 h.2)] at hd
          have HD := Lib.hid hd
          clear hd
          go_wp2_with fail
          refine (at_any o now _).mono ?_
          rintro e w1 ⟨rfl, hb1⟩
          have HO1 := Lib.hid (ownsRow_keep ((Hid.out hown).alloc (.cells #[.int .i64 o.level, .int .i64 o.next, .int .i64 o.due, .int .i64 o.asked] 76)) (Keep.none hb1) (fun _ _ => id))
          have q1 : Below w.heap.size w w1 := (hb.alloc hs _).trans (hb1.mono (by simp; omega))
          clear hb1 o0 o1 o2 o3
          go_wp2
          go_roundw
          case rel => exact ⟨k + 1, by omega, by go_num, by rw [HD.out]; exact HO1, q1⟩
          case measure => simp [intOf]; omega
      · rw [if_neg (fun h => d0 h.1)] at hd
        have HD := Lib.hid hd
        clear hd
        go_wp2
        go_roundw
        case rel => exact ⟨k + 1, by omega, by go_num, by rw [HD.out]; exact (Hid.out hown).alloc _, hb.alloc hs _⟩
        case measure => simp [intOf]; omega
    · obtain rfl : k = l.length := by omega
      have ho := Hid.out hown
      obtain ⟨A', c', hv⟩ := ownsRow_slice ho
      subst hv
      go_wp2
      go_ret
      exact ⟨_, _, rfl, ho, hb⟩

set_option maxRecDepth 100000 in
set_option maxHeartbeats 400000 in
theorem copy_any (b g c : Nat) (l : List One) (j lv : Int) (w : World) (h : GrpAt w b g c l j lv) (hl : 0 < l.length ∧ l.length ≤ 64) :
    Calls Try.prog 38 #[.pointer (some ⟨b, 0, none⟩)] w fun e w' => ∃ b' g' c', e = .returned (.pointer (some ⟨b', 0, none⟩)) ∧ GrpAt w' b' g' c' l j lv ∧ w.heap.size ≤ b' ∧ w.heap.size ≤ g' ∧ Below w.heap.size w w' := by
  obtain ⟨c0, c1, c2⟩ := h.cells
  have HR := Lib.hid (Reads.of_owns h.row)
  have h1 : ∀ u ∈ l.flatMap oneCells, u.oneCell' = true := by
    intro u hu
    obtain ⟨o, -, hu⟩ := List.mem_flatMap.1 hu
    simp [oneCells] at hu
    rcases hu with rfl | rfl | rfl | rfl <;> rfl
  have HC := Lib.hid (fun W (hW : Reads W 4 (.slice (some ⟨g, 0, none⟩) l.length c) l.length (l.flatMap oneCells)) => clone_gone _ l.length _ W hW (by omega) h1)
  have HG := Lib.hid h
  clear h h1
  go_enter Try.func38, Try.ntmps38
  go_wp2_with fail
  go_region_held3 (fun w' => w'.cell? ⟨b, 0, none⟩ = some (.slice (some ⟨g, 0, none⟩) l.length c) ∧ w'.cell? ⟨b, 1, none⟩ = some (.int .i64 j) ∧ w'.cell? ⟨b, 2, none⟩ = some (.int .i64 lv)) (first | exact ⟨c0, c1, c2⟩ | exact d1 | exact d2)
    (first
      | (go_at_call 53; refine (HC.out _ (HR.out.drewN 1)).mono ?_; rintro e w1 ⟨A1, cc, rfl, ho1, hb1, hn1⟩; have d1 := ((HG.out.drewN 1).below hb1).cells; have d2 := (((HG.out.drewN 1).below hb1).below ((Below.refl _ w1).alloc (Nat.le_refl _) (.cells #[.slice A1 l.length cc, .int .i64 j, .int .i64 lv] 79))).cells; have HO1 := Lib.hid ho1; have HB1 := Lib.hid hb1; have HN1 := Lib.hid hn1; clear ho1 hb1 hn1))
  clear c0 c1 c2 d1 d2
  go_wp2
  go_ret
  have hs1 : w.heap.size ≤ w1.heap.size := HB1.out.size
  have hb : Below w.heap.size w w1 := ⟨HB1.out.os, HB1.out.tape, HB1.out.output, HB1.out.size, HB1.out.block⟩
  rcases HO1.out.2 with ⟨hv, _⟩ | ⟨g', cap, cur, hv, hg, hh, e1, e2, e3, e4⟩
  · have := HN1.out.2 hv; cases this
  · injection hv with hA h2 h3
    subst hA
    subst h3
    have hlt : g' < w1.heap.size := (Array.getElem?_eq_some_iff.1 hh).1
    have hrow : w1.ownsRow 0 76 4 (.slice (some ⟨g', 0, none⟩) l.length cc) l.length (l.flatMap oneCells) := ownsRow_base HO1.out (Nat.zero_le _)
    exact ⟨w1.heap.size, g', cc, rfl, ⟨Blk.new w1 _ _, hrow.alloc _, by omega⟩, hs1, hg, hb.alloc hs1 _⟩

theorem flat_set4 : ∀ (l : List One) (r : Nat) (o : One), r < l.length → ((((l.flatMap oneCells).set (r * 4) (.int .i64 o.level)).set (r * 4 + 1) (.int .i64 o.next)).set (r * 4 + 2) (.int .i64 o.due)).set (r * 4 + 3) (.int .i64 o.asked) = (l.set r o).flatMap oneCells
  | [], r, o, h => by simp at h
  | z :: l, 0, o, _ => by simp [oneCells]
  | z :: l, r + 1, o, h => by
    have ih := flat_set4 l r o (by simpa using h)
    rw [List.set_cons_succ, List.flatMap_cons, List.flatMap_cons, ← ih, show (r + 1) * 4 = r * 4 + 4 by omega]
    simp [oneCells]
theorem GrpAt.set {w : World} {b g c : Nat} {l : List One} {j lv : Int} (h : GrpAt w b g c l j lv) {r : Nat} (hr : r < l.length) (o : One) :
    GrpAt ((((w.setCell ⟨g, r * 4, none⟩ (.int .i64 o.level)).setCell ⟨g, r * 4 + 1, none⟩ (.int .i64 o.next)).setCell ⟨g, r * 4 + 2, none⟩ (.int .i64 o.due)).setCell ⟨g, r * 4 + 3, none⟩ (.int .i64 o.asked)) b g c (l.set r o) j lv := by
  have hl : (l.flatMap oneCells).length = l.length * 4 := flatMap_length oneCells_len l
  refine ⟨?_, ?_, h.ne⟩
  · rw [List.length_set]
    exact (((h.str.setOther h.ne _).setOther h.ne _).setOther h.ne _).setOther h.ne _
  · rw [List.length_set, ← flat_set4 l r o hr]
    have h1 := ownsRow_set h.row (j := r * 4) (by omega) (.int .i64 o.level)
    have h2 := ownsRow_set h1 (j := r * 4 + 1) (by rw [List.length_set]; omega) (.int .i64 o.next)
    have h3 := ownsRow_set h2 (j := r * 4 + 2) (by rw [List.length_set, List.length_set]; omega) (.int .i64 o.due)
    exact ownsRow_set h3 (j := r * 4 + 3) (by rw [List.length_set, List.length_set, List.length_set]; omega) (.int .i64 o.asked)
theorem keep_set4 {w w1 : World} {g : Nat} (h : Below w.heap.size w w1) (v0 v1 v2 v3 : Value) (o0 o1 o2 o3 : Nat) : Keep (fun k => k = g) w ((((w1.setCell ⟨g, o0, none⟩ v0).setCell ⟨g, o1, none⟩ v1).setCell ⟨g, o2, none⟩ v2).setCell ⟨g, o3, none⟩ v3) :=
  ((((Keep.ofBelowAll (S := fun k => k = g) h).setCell (.inl rfl) _).setCell (.inl rfl) _).setCell (.inl rfl) _).setCell (.inl rfl) _

/-- an ask, taken in -/
def stp (j lv : Int) (o : One) (level now : Int) : One := ⟨o.at now, level, now + (if o.at now < level then j else lv), now⟩
def AskOk (n : Nat) (r level now : Int) : Prop := 0 ≤ r ∧ r < n ∧ -1 ≤ level ∧ level ≤ 7 ∧ 0 ≤ now ∧ now ≤ 1099511627776
set_option maxRecDepth 100000 in
set_option maxHeartbeats 400000 in
theorem ask_range (b g c : Nat) (l : List One) (j lv r level now : Int) (w : World) (h : GrpAt w b g c l j lv) (hn : ¬ AskOk l.length r level now) :
    Calls Try.prog 9 #[.pointer (some ⟨b, 0, none⟩), .int .i64 r, .int .i64 level, .int .i64 now] w fun e w' => e = .returned (.int .i64 11) ∧ w = w' := by
  have hh := has_any b g c l j lv r w h
  unfold AskOk at hn
  rcases (by omega : ¬ (0 ≤ r ∧ r < (l.length : Int)) ∨ ((0 ≤ r ∧ r < (l.length : Int)) ∧ level < -1) ∨ ((0 ≤ r ∧ r < (l.length : Int)) ∧ -1 ≤ level ∧ 7 < level) ∨ ((0 ≤ r ∧ r < (l.length : Int)) ∧ -1 ≤ level ∧ level ≤ 7 ∧ now < 0) ∨ ((0 ≤ r ∧ r < (l.length : Int)) ∧ -1 ≤ level ∧ level ≤ 7 ∧ 0 ≤ now ∧ 1099511627776 < now)) with
    g1 | ⟨g0, g1⟩ | ⟨g0, g1, g2⟩ | ⟨g0, g1, g2, g3⟩ | ⟨g0, g1, g2, g3, g4⟩
  · rw [show hasB l.length r = false from decide_eq_false g1] at hh
    have HH := Lib.hid hh
    clear h hh hn g1
    go_enter Try.func9, Try.ntmps9
    go_wp2_with fail
    refine HH.out.mono ?_
    rintro e w' ⟨rfl, rfl⟩
    go_wp2
    go_ret
    exact ⟨rfl, rfl⟩
  all_goals
    rw [show hasB l.length r = true from decide_eq_true g0] at hh
    have HH := Lib.hid hh
    clear h hh hn g0
    go_enter Try.func9, Try.ntmps9
    go_wp2_with fail
    refine HH.out.mono ?_
    rintro e w' ⟨rfl, rfl⟩
    go_wp2
    go_ret
    exact ⟨rfl, rfl⟩
set_option maxRecDepth 100000 in
set_option maxHeartbeats 400000 in
theorem ask_stale (b g c : Nat) (l : List One) (j lv level now : Int) (r : Nat) (o : One) (w : World) (h : GrpAt w b g c l j lv) (hr : l[r]? = some o) (hn : AskOk l.length r level now) (hs : now < o.asked) :
    Calls Try.prog 9 #[.pointer (some ⟨b, 0, none⟩), .int .i64 r, .int .i64 level, .int .i64 now] w fun e w' => e = .returned (.int .i64 23) ∧ w = w' := by
  have hh := has_any b g c l j lv r w h
  obtain ⟨c0, -, -⟩ := h.cells
  obtain ⟨o0, o1, o2, o3⟩ := h.one hr
  obtain ⟨g0, g1, g2, g3, g4, g5⟩ := hn
  rw [show hasB l.length r = true from decide_eq_true ⟨g0, g1⟩] at hh
  have HH := Lib.hid hh
  clear h hh hr
  go_enter Try.func9, Try.ntmps9
  go_wp2_with fail
  refine HH.out.mono ?_
  rintro e w' ⟨rfl, rfl⟩
  go_wp2
  go_ret
  exact ⟨rfl, rfl⟩
set_option maxRecDepth 100000 in
set_option maxHeartbeats 400000 in
theorem ask_yes (b g c : Nat) (l : List One) (j lv level now : Int) (r : Nat) (o : One) (w : World) (h : GrpAt w b g c l j lv) (hr : l[r]? = some o) (hn : AskOk l.length r level now) (hs : o.asked ≤ now) (hjl : 0 ≤ j ∧ j ≤ 64 ∧ 0 ≤ lv ∧ lv ≤ 64) :
    Calls Try.prog 9 #[.pointer (some ⟨b, 0, none⟩), .int .i64 r, .int .i64 level, .int .i64 now] w fun e w' => e = .returned (.int .i64 0) ∧ GrpAt w' b g c (l.set r (stp j lv o level now)) j lv ∧ Keep (fun k => k = g) w w' := by
  have hh := has_any b g c l j lv r w h
  obtain ⟨c0, c1, c2⟩ := h.cells
  obtain ⟨o0, o1, o2, o3⟩ := h.one hr
  obtain ⟨g0, g1, g2, g3, g4, g5⟩ := hn
  obtain ⟨k1, k2, k3, k4⟩ := hjl
  rw [show hasB l.length r = true from decide_eq_true ⟨g0, g1⟩] at hh
  have HH := Lib.hid hh
  have HG := Lib.hid h
  have HR := Lib.hid hr
  have hat := at_any o now
  obtain ⟨a, ha⟩ : ∃ a, a = o.at now := ⟨_, rfl⟩
  rw [← ha] at hat
  have HA := Lib.hid ha
  have HAT := Lib.hid hat
  have t1 : decide (level < -1) = false := decide_eq_false (by omega)
  have t2 : decide (8 ≤ level) = false := decide_eq_false (by omega)
  have t3 : decide (now < 0) = false := decide_eq_false (by omega)
  have t4 : decide (1099511627776 < now) = false := decide_eq_false (by omega)
  have t5 : decide (now < o.asked) = false := decide_eq_false (by omega)
  clear h hh hr ha hat
  by_cases hlv : a < level
  · go_enter Try.func9, Try.ntmps9
    go_wp2_with fail
    refine HH.out.mono ?_
    rintro e w' ⟨rfl, rfl⟩
    go_wp2_with fail
    refine (HAT.out _).mono ?_
    rintro e w1 ⟨rfl, hb1⟩
    have HG1 := Lib.hid (HG.out.below hb1)
    clear c0 c1 c2 o0 o1 o2 o3
    obtain ⟨c0, c1, c2⟩ := HG1.out.cells
    obtain ⟨o0, o1, o2, o3⟩ := HG1.out.one HR.out
    have f0 := ownsRow_frozen HG1.out.row (r * 4)
    have f1 := ownsRow_frozen HG1.out.row (r * 4 + 1)
    have f2 := ownsRow_frozen HG1.out.row (r * 4 + 2)
    have f3 := ownsRow_frozen HG1.out.row (r * 4 + 3)
    have HB1 := Lib.hid hb1
    clear hb1
    go_wp2
    go_ret
    have e : stp j lv o level now = ⟨a, level, now + j, now⟩ := by unfold stp; rw [← HA.out]; first | rw [if_pos hlv] | rw [if_neg (by omega)]
    rw [e]
    exact ⟨rfl, HG1.out.set (List.getElem?_eq_some_iff.1 HR.out).1 ⟨a, level, now + j, now⟩, keep_set4 HB1.out _ _ _ _ _ _ _ _⟩
  · go_enter Try.func9, Try.ntmps9
    go_wp2_with fail
    refine HH.out.mono ?_
    rintro e w' ⟨rfl, rfl⟩
    go_wp2_with fail
    refine (HAT.out _).mono ?_
    rintro e w1 ⟨rfl, hb1⟩
    have HG1 := Lib.hid (HG.out.below hb1)
    clear c0 c1 c2 o0 o1 o2 o3
    obtain ⟨c0, c1, c2⟩ := HG1.out.cells
    obtain ⟨o0, o1, o2, o3⟩ := HG1.out.one HR.out
    have f0 := ownsRow_frozen HG1.out.row (r * 4)
    have f1 := ownsRow_frozen HG1.out.row (r * 4 + 1)
    have f2 := ownsRow_frozen HG1.out.row (r * 4 + 2)
    have f3 := ownsRow_frozen HG1.out.row (r * 4 + 3)
    have HB1 := Lib.hid hb1
    clear hb1
    go_wp2
    go_ret
    have e : stp j lv o level now = ⟨a, level, now + lv, now⟩ := by unfold stp; rw [← HA.out]; first | rw [if_pos hlv] | rw [if_neg (by omega)]
    rw [e]
    exact ⟨rfl, HG1.out.set (List.getElem?_eq_some_iff.1 HR.out).1 ⟨a, level, now + lv, now⟩, keep_set4 HB1.out _ _ _ _ _ _ _ _⟩
end Go.Proofs.Ytlodiibmofeikaa
