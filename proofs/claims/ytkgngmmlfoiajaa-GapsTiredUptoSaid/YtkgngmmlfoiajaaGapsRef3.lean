/- gaps: the reference: Hear. -/
import Derived.Test.YtkgngmmlfoiajaaGapsRef2
import Derived.Test.YtkgngmmlfoiajaaGaps6
namespace Go.Proofs.Ytkgngmmlfoiajaa
open Go.RowKit
set_option linter.unusedVariables false
set_option linter.unusedSimpArgs false

theorem Reads.pair {w : World} {v : Value} {n : Nat} {l : List (Int × Int)} (h : Reads w 2 v n (l.flatMap pairCells)) {k : Nat} {x : Int × Int} (hx : l[k]? = some x) : ∃ g o c, v = .slice (some ⟨g, o, none⟩) n c ∧ w.cell? ⟨g, o + k * 2, none⟩ = some (.int .i64 x.1) ∧ w.cell? ⟨g, o + k * 2 + 1, none⟩ = some (.int .i64 x.2) := by
  obtain ⟨g, p, c, he, hc⟩ := Reads.elem h pairCells_len (by omega) hx
  exact ⟨g, p, c, he, hc 0 _ rfl, hc 1 _ rfl⟩
def heardN (ps : List (Int × Int)) (now : Int) (l : List Hole) : Nat := (l.filter (hears ps now)).length
theorem heardN_yes {ps : List (Int × Int)} {now : Int} {l : List Hole} {k : Nat} {o : Hole} (h : l[k]? = some o) (hh : hears ps now o = true) : heardN ps now (l.take (k + 1)) = heardN ps now (l.take k) + 1 ∧ (l.take (k + 1)).map (heard ps now) = (l.take k).map (heard ps now) ++ [⟨o.block, now + o.wait, o.wait, o.tries⟩] := by
  rw [take_at h]
  unfold heardN
  rw [List.filter_append, List.map_append]
  simp [hh, heard]
theorem heardN_no {ps : List (Int × Int)} {now : Int} {l : List Hole} {k : Nat} {o : Hole} (h : l[k]? = some o) (hh : hears ps now o = false) : heardN ps now (l.take (k + 1)) = heardN ps now (l.take k) ∧ (l.take (k + 1)).map (heard ps now) = (l.take k).map (heard ps now) ++ [o] := by
  rw [take_at h]
  unfold heardN
  rw [List.filter_append, List.map_append]
  simp [hh, heard]
theorem heardN_le {ps : List (Int × Int)} {now : Int} {l : List Hole} : heardN ps now l ≤ l.length := List.length_filter_le _ _
theorem inAny_snoc {ps : List (Int × Int)} {k : Nat} {x : Int × Int} {b : Int} (h : ps[k]? = some x) : inAny (ps.take (k + 1)) b = (inAny (ps.take k) b || (decide (x.1 ≤ b) && decide (b < x.2))) := by
  rw [List.take_add_one, h]; simp [inAny]

theorem rhear_no (v : Value) (pv : Value) (now : Int) (w : World) (ht : inT now = false) :
    Calls Try.prog 27 #[v, pv, .int .i64 now] w fun e w' => e = .returned (.tuple #[v, .int .i64 0]) ∧ w = w' := by
  rcases (by
    by_cases g1 : now < 0
    · exact .inl g1
    · exact .inr ⟨by omega, by
        by_cases g2 : now ≤ 1099511627776
        · exact absurd (inT_iff.2 ⟨by omega, g2⟩) (by rw [ht]; decide)
        · omega⟩ : now < 0 ∨ (0 ≤ now ∧ 1099511627776 < now)) with g | ⟨g, g2⟩
  all_goals
    clear ht
    go_enter Try.func27, Try.ntmps27
    go_wp2
    go_ret2
    exact ⟨rfl, rfl⟩

set_option maxRecDepth 100000 in
set_option maxHeartbeats 4000000 in
theorem rhear_yes (K : Nat) (A : Option Addr) (c n : Nat) (l : List Hole) (pA : Option Addr) (pc pn : Nat) (ps : List (Int × Int)) (now : Int) (w : World) (h : Reads w 4 (.slice A n c) n (l.flatMap holeCells)) (hl : n = l.length) (hn : n ≤ 100000) (hr : Rl K l) (hp : Reads w 2 (.slice pA pn pc) pn (ps.flatMap pairCells)) (hpl : pn = ps.length) (hpn : pn ≤ 10000000) (ht : inT now = true) :
    Calls Try.prog 27 #[.slice A n c, .slice pA pn pc, .int .i64 now] w fun e w' => ∃ A' c', e = .returned (.tuple #[.slice A' n c', .int .i64 (heardN ps now l)]) ∧ w'.ownsRow w.heap.size 49 4 (.slice A' n c') n ((l.map (heard ps now)).flatMap holeCells) ∧ Below w.heap.size w w' := by
  obtain ⟨n1, n2⟩ := inT_iff.1 ht
  obtain ⟨i0, hi, hz0, hz1, hz2⟩ := info_parts info_rhole
  have HX := Lib.hid h
  have HL := Lib.hid hl
  have HR := Lib.hid hr
  have HP := Lib.hid hp
  have HPL := Lib.hid hpl
  have HT := Lib.hid ht
  clear h hl hr hp hpl ht
  go_enter Try.func27, Try.ntmps27
  go_wp2
  go_loopw [8, 9, 10, 11, 12, 13] (fun o q i _ _ _ wr => ∃ k m : Nat, k ≤ n ∧ m ≤ k ∧ i = .int .i64 k ∧ q = .int .i64 m ∧ Hid (m = heardN ps now (l.take k)) ∧ Hid (wr.ownsRow w.heap.size 49 4 o k (((l.take k).map (heard ps now)).flatMap holeCells)) ∧ Below w.heap.size w wr) (fun _ _ i _ _ _ _ => n - (intOf i).toNat)
  case atStart => exact ⟨0, 0, by omega, by omega, rfl, rfl, rfl, World.ownsRow_nil _ _ _ _, Below.refl _ _⟩
  case round =>
    obtain ⟨k, m, hk, hmk, rfl, rfl, HM, hown, hb⟩ := hrel
    have hs := hb.size
    by_cases hlt : k < n
    · obtain ⟨o, ho⟩ : ∃ o, l[k]? = some o := ⟨_, List.getElem?_eq_getElem (by rw [← HL.out]; exact hlt)⟩
      obtain ⟨b0, b1, d0, d1, w0, w1, t0, t1⟩ := HR.out.fine o (List.mem_of_getElem? ho)
      obtain ⟨g1, p1, c1, he1, hcs⟩ := Reads.elem (HX.out.below hb) holeCells_len (by omega) ho
      have a0 := hcs 0 _ rfl
      have a1 := hcs 1 _ rfl
      have a2 := hcs 2 _ rfl
      have a3 := hcs 3 _ rfl
      cases he1
      simp only [Nat.add_zero] at a0
      have i1 : (0 : Int) ≤ (k : Int) := by omega
      have i2 : (k : Int) < (n : Int) := by omega
      have HO := Lib.hid ho
      clear ho hcs
      go_wp2_with fail
      have hbz : Below w.heap.size w (wr.alloc (.cells #[.int .i64 o.block, .int .i64 o.due, .int .i64 o.wait, .int .i64 o.tries] 49)) := hb.alloc hs _
      have hownz := (Hid.out hown).alloc (.cells #[.int .i64 o.block, .int .i64 o.due, .int .i64 o.wait, .int .i64 o.tries] 49)
      have hblk := Blk.new wr #[.int .i64 o.block, .int .i64 o.due, .int .i64 o.wait, .int .i64 o.tries] 49
      have hzs : wr.heap.size < (wr.alloc (.cells #[.int .i64 o.block, .int .i64 o.due, .int .i64 o.wait, .int .i64 o.tries] 49)).heap.size := by simp
      have hzz : ∀ g, Value.ownBlock (‹Value›) = some g → True := fun _ _ => trivial
      have HL8 := Lib.hid (fun g hg => ((Hid.out hown).lt g hg).2)
      have HOZ := Lib.hid hownz
      have HBZ := Lib.hid hbz
      have HBK := Lib.hid hblk
      clear hownz hbz hblk hzz a0 a1 a2 a3 hown
      generalize hwz : wr.alloc (.cells #[.int .i64 o.block, .int .i64 o.due, .int .i64 o.wait, .int .i64 o.tries] 49) = wz at *
      clear hwz
      obtain ⟨w8, rfl⟩ : ∃ w8 : World, w8 = wr := ⟨_, rfl⟩
      go_loopw [12, 13] (fun d i wi => ∃ j q : Nat, j ≤ pn ∧ i = .int .i64 j ∧ d = .bool (inAny (ps.take j) o.block) ∧ Hid (wi = wz.drewN q)) (fun _ i _ => pn - (intOf i).toNat)
      case atStart => exact ⟨0, 0, by omega, rfl, rfl, rfl⟩
      case round =>
        obtain ⟨j, q, hj, rfl, rfl, HWI⟩ := hrel
        by_cases hjl : j < pn
        · obtain ⟨x, hx⟩ : ∃ x, ps[j]? = some x := ⟨_, List.getElem?_eq_getElem (by rw [← HPL.out]; exact hjl)⟩
          obtain ⟨g2, p2, c2, he2, x0, x1⟩ := ((HP.out.below HBZ.out).drewN q).pair hx
          cases he2
          obtain ⟨a0, a1, a2, a3⟩ := blk4 (HBK.out.drewN q)
          rw [← HWI.out] at x0 x1 a0 a1 a2 a3
          have i3 : (0 : Int) ≤ (j : Int) := by omega
          have i4 : (j : Int) < (pn : Int) := by omega
          have HIS := Lib.hid (inAny_snoc (b := o.block) hx)
          clear hx
          by_cases e1 : x.1 ≤ o.block
          · have t2 : decide (x.1 ≤ o.block) = true := decide_eq_true e1
            by_cases e2 : o.block < x.2
            · have t3 : decide (o.block < x.2) = true := decide_eq_true e2
              have HIT : Hid (inAny (ps.take (j + 1)) o.block = true) := by show _ = _; rw [HIS.out, t2, t3]; simp
              go_wp2_with fail
              go_quiet (fail)
              go_wp2
              go_roundw
              case rel => exact ⟨j + 1, q + nq, by omega, by go_num, by rw [HIT.out], Lib.hid (by rw [HWI.out]; simp [World.drewN, Nat.add_assoc])⟩
              case measure => simp [intOf]; omega
            · have t3 : decide (o.block < x.2) = false := decide_eq_false e2
              have HIT : Hid (inAny (ps.take (j + 1)) o.block = inAny (ps.take j) o.block) := by show _ = _; rw [HIS.out, t2, t3]; simp
              generalize inAny (ps.take j) o.block = bi at *
              go_wp2_with fail
              go_quiet (fail)
              go_wp2
              go_roundw
              case rel => exact ⟨j + 1, q + nq, by omega, by go_num, by rw [HIT.out], Lib.hid (by rw [HWI.out]; simp [World.drewN, Nat.add_assoc])⟩
              case measure => simp [intOf]; omega
          · have t2 : decide (x.1 ≤ o.block) = false := decide_eq_false e1
            have HIT : Hid (inAny (ps.take (j + 1)) o.block = inAny (ps.take j) o.block) := by show _ = _; rw [HIS.out, t2]; simp
            generalize inAny (ps.take j) o.block = bi at *
            go_wp2_with fail
            go_quiet (fail)
            go_wp2
            go_roundw
            case rel => exact ⟨j + 1, q + nq, by omega, by go_num, by rw [HIT.out], Lib.hid (by rw [HWI.out]; simp [World.drewN, Nat.add_assoc])⟩
            case measure => simp [intOf]; omega
        · obtain rfl : j = pn := by omega
          have htk : inAny (ps.take j) o.block = inAny ps o.block := by rw [List.take_of_length_le (by rw [← HPL.out]; omega)]
          rw [htk]
          clear htk
          have hoz := ownsRow_drewN HOZ.out q
          have hbk := HBK.out.drewN q
          have hbz := below_drewN HBZ.out q
          rw [← HWI.out] at hoz hbk hbz
          obtain ⟨a0, a1, a2, a3⟩ := blk4 hbk
          have HOZ2 := Lib.hid hoz
          have HBK2 := Lib.hid hbk
          have HBZ2 := Lib.hid hbz
          have hsz2 := hbz.size
          clear hoz hbk hbz
          cases hin : inAny ps o.block
          · have hh : hears ps now o = false := by unfold hears; rw [hin]; rfl
            have HH := Lib.hid (heardN_no HO.out hh)
            clear hin hh
            go_wp2_with (at_builtin; refine wpList_app1 rfl _ _ 42 rfl w.heap.size 49 i0 _ 4 32 Try.underlying42 hi hz0 hz1 hz2 rfl _ _ _ rfl HOZ2.out #[.int .i64 o.block, .int .i64 o.due, .int .i64 o.wait, .int .i64 o.tries] 1 rfl rfl (four_one _ _ _ _) (by omega) (by omega) hsz2 ?_; rintro A2 c2 w2 hown2 hk2 - -)
            have HB2 : Hid (Below w.heap.size w w2) := HBZ2.out.trans (hk2.below (fun g hg => (HOZ2.out.lt g hg).1) hsz2)
            have HO2 : Hid (w2.ownsRow w.heap.size 49 4 (.slice A2 (k + 1) c2) (k + 1) (((l.take (k + 1)).map (heard ps now)).flatMap holeCells)) := by
              show World.ownsRow ..
              rw [HH.out.2, flat_snoc]; exact hown2
            clear hown2 hk2
            go_wp2
            go_roundw
            case rel => exact ⟨k + 1, m, by omega, by omega, by go_num, by first | rfl | go_num, Lib.hid (by rw [HH.out.1, HM.out]), HO2.out, HB2.out⟩
            case measure => simp [intOf]; omega
          · by_cases hd : o.due < now + o.wait
            · have hh : hears ps now o = true := by unfold hears; rw [hin, HT.out, decide_eq_true hd]; rfl
              have HH := Lib.hid (heardN_yes HO.out hh)
              have f1 := HBK2.out.frozen 1
              clear hin hh
              have HOZ3 : Hid ((wr.setCell ⟨w8.heap.size, 1, none⟩ (.int .i64 (now + o.wait))).ownsRow w.heap.size 49 4 _ k (((l.take k).map (heard ps now)).flatMap holeCells)) :=
                ownsRow_keep HOZ2.out ((Keep.refl (fun k => k = w8.heap.size) wr).setCell (.inl rfl) _) (fun g hg e => by have := HL8.out g hg; omega)
              have HBZ3 : Hid (Below w.heap.size w (wr.setCell ⟨w8.heap.size, 1, none⟩ (.int .i64 (now + o.wait)))) := HBZ2.out.setCell hs _
              have hsz3 : w.heap.size ≤ (wr.setCell ⟨w8.heap.size, 1, none⟩ (.int .i64 (now + o.wait))).heap.size := by simp; omega
              have hw8 : w8.heap.size < wr.heap.size := HBK2.out.lt
              go_wp2_with (at_builtin; refine wpList_app1n rfl _ _ 42 rfl w.heap.size 49 i0 _ 4 32 Try.underlying42 hi hz0 hz1 hz2 rfl _ _ _ rfl HOZ3.out wr.heap.size (by simp) #[.int .i64 o.block, .int .i64 (now + o.wait), .int .i64 o.wait, .int .i64 o.tries] 1 rfl rfl (four_one _ _ _ _) (by omega) (by omega) hsz3 ?_; rintro A2 c2 w2 hown2 hk2 - -)
              have HB2 : Hid (Below w.heap.size w w2) := HBZ3.out.trans (hk2.below (fun g hg => (HOZ3.out.lt g hg).1) hsz3)
              have HO2 : Hid (w2.ownsRow w.heap.size 49 4 (.slice A2 (k + 1) c2) (k + 1) (((l.take (k + 1)).map (heard ps now)).flatMap holeCells)) := by
                show World.ownsRow ..
                rw [HH.out.2, flat_snoc]; exact hown2
              clear hown2 hk2
              go_wp2
              go_roundw
              case rel => exact ⟨k + 1, m + 1, by omega, by omega, by go_num, by first | rfl | go_num, Lib.hid (by rw [HH.out.1, HM.out]), HO2.out, HB2.out⟩
              case measure => simp [intOf]; omega
            · have hh : hears ps now o = false := by unfold hears; rw [decide_eq_false hd]; simp
              have HH := Lib.hid (heardN_no HO.out hh)
              have hd' : now + o.wait ≤ o.due := by omega
              clear hin hh hd
              go_wp2_with (at_builtin; refine wpList_app1 rfl _ _ 42 rfl w.heap.size 49 i0 _ 4 32 Try.underlying42 hi hz0 hz1 hz2 rfl _ _ _ rfl HOZ2.out #[.int .i64 o.block, .int .i64 o.due, .int .i64 o.wait, .int .i64 o.tries] 1 rfl rfl (four_one _ _ _ _) (by omega) (by omega) hsz2 ?_; rintro A2 c2 w2 hown2 hk2 - -)
              have HB2 : Hid (Below w.heap.size w w2) := HBZ2.out.trans (hk2.below (fun g hg => (HOZ2.out.lt g hg).1) hsz2)
              have HO2 : Hid (w2.ownsRow w.heap.size 49 4 (.slice A2 (k + 1) c2) (k + 1) (((l.take (k + 1)).map (heard ps now)).flatMap holeCells)) := by
                show World.ownsRow ..
                rw [HH.out.2, flat_snoc]; exact hown2
              clear hown2 hk2
              go_wp2
              go_roundw
              case rel => exact ⟨k + 1, m, by omega, by omega, by go_num, by first | rfl | go_num, Lib.hid (by rw [HH.out.1, HM.out]), HO2.out, HB2.out⟩
              case measure => simp [intOf]; omega
    · obtain rfl : k = n := by omega
      have ho := Hid.out hown
      have hm := HM.out
      rw [List.take_of_length_le (by rw [← HL.out]; omega)] at ho hm
      obtain ⟨A', c', hv⟩ := ownsRow_slice ho
      subst hv
      have HO := Lib.hid ho
      have HMM := Lib.hid hm
      clear ho hown hm
      go_wp2
      go_ret2
      exact ⟨A', c', by rw [← HMM.out]; rfl, HO.out, hb⟩
end Go.Proofs.Ytkgngmmlfoiajaa
