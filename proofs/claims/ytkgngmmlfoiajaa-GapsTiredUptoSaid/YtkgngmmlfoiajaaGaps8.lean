/- gaps: Hear. -/
import Derived.Test.YtkgngmmlfoiajaaGapsRef3
import Derived.Test.YtkgngmmlfoiajaaGaps7
namespace Go.Proofs.Ytkgngmmlfoiajaa
open Go.RowKit
set_option linter.unusedVariables false
set_option linter.unusedSimpArgs false

/-- the variable in block hv points at a hole whose block is B -/
structure HvAt (w : World) (hv g o : Nat) (B : Int) : Prop where
  ptr : w.cell? ⟨hv, 0, none⟩ = some (.pointer (some ⟨g, o, none⟩))
  blk : w.cell? ⟨g, o, none⟩ = some (.int .i64 B)
  lh : hv < w.heap.size
  lg : g < w.heap.size
theorem HvAt.below {w w' : World} {hv g o : Nat} {B : Int} (h : HvAt w hv g o B) (hb : Below w.heap.size w w') : HvAt w' hv g o B :=
  ⟨((Keep.none hb).cell (p := ⟨hv, 0, none⟩) h.lh id).trans h.ptr, ((Keep.none hb).cell (p := ⟨g, o, none⟩) h.lg id).trans h.blk, Nat.lt_of_lt_of_le h.lh hb.size, Nat.lt_of_lt_of_le h.lg hb.size⟩
def inP (x : Int × Int) (B : Int) : Bool := decide (x.1 ≤ B) && decide (B < x.2)
set_option maxRecDepth 100000 in
theorem hearc_any (x : Int × Int) (B : Int) (hv g o : Nat) (w : World) (h : HvAt w hv g o B) :
    Calls Try.prog 38 #[.agg #[.int .i64 x.1, .int .i64 x.2], .pointer (some ⟨hv, 0, none⟩)] w fun e w' => e = .returned (.bool (inP x B)) ∧ Below w.heap.size w w' := by
  have hb : Below w.heap.size w (w.alloc (.cells #[.int .i64 x.1, .int .i64 x.2] 36)) := (Below.refl _ w).alloc (Nat.le_refl _) _
  have h2 := h.below hb
  have p1 := h2.ptr
  have p2 := h2.blk
  have HB := Lib.hid hb
  have hbk := Blk.new w #[.int .i64 x.1, .int .i64 x.2] 36
  have q1 := hbk.cell 0 rfl
  have q2 := hbk.cell 1 rfl
  unfold inP
  by_cases e1 : x.1 ≤ B
  · have t1 : decide (x.1 ≤ B) = true := decide_eq_true e1
    by_cases e2 : B < x.2
    · rw [t1, decide_eq_true e2]
      clear hb h2 hbk h
      go_enter Try.func38, Try.ntmps38
      go_wp2_with fail
      go_quiet (fail)
      go_wp2
      go_ret
      exact ⟨by first | rfl | (simp; done) | (simp; omega), below_drewN HB.out nq⟩
    · rw [t1, decide_eq_false e2]
      clear hb h2 hbk h
      have e2' : x.2 ≤ B := by omega
      go_enter Try.func38, Try.ntmps38
      go_wp2_with fail
      go_quiet (fail)
      go_wp2
      go_ret
      exact ⟨by first | rfl | (simp; done) | (simp; omega), below_drewN HB.out nq⟩
  · have t1 : decide (x.1 ≤ B) = false := decide_eq_false e1
    rw [t1]
    clear hb h2 hbk h
    go_enter Try.func38, Try.ntmps38
    go_wp2_with fail
    go_quiet (fail)
    go_wp2
    go_ret
    exact ⟨by first | rfl | (simp; done) | (simp; omega), below_drewN HB.out nq⟩

/-- what IndexFunc tells -/
def IdxR (ps : List (Int × Int)) (B z : Int) : Prop := decide (0 ≤ z) = inAny ps B
set_option maxRecDepth 100000 in
set_option maxHeartbeats 400000 in
theorem indexf_any (A : Option Addr) (c n : Nat) (ps : List (Int × Int)) (B : Int) (hv g o : Nat) (w : World) (hx : Reads w 2 (.slice A n c) n (ps.flatMap pairCells)) (hl : n = ps.length) (hn : n ≤ 10000000) (h : HvAt w hv g o B) :
    Calls Try.prog 41 #[.slice A n c, .func (.func 38) #[] #[.pointer (some ⟨hv, 0, none⟩)]] w fun e w' => ∃ z, e = .returned (.int .i64 z) ∧ IdxR ps B z ∧ Below w.heap.size w w' := by
  have HX := Lib.hid hx
  have HL := Lib.hid hl
  have HV := Lib.hid h
  clear hx hl h
  go_enter Try.func41, Try.ntmps41
  go_wp2
  go_loopw [5, 8] (fun _ i wr => ∃ k : Nat, k ≤ n ∧ i = .int .i64 k ∧ Hid (inAny (ps.take k) B = false) ∧ Hid (Below w.heap.size w wr)) (fun _ i _ => n - (intOf i).toNat)
  case atStart => exact ⟨0, by omega, rfl, rfl, Below.refl _ _⟩
  case round =>
    obtain ⟨k, hk, rfl, HT, HB⟩ := hrel
    by_cases hlt : k < n
    · obtain ⟨a, ha⟩ : ∃ a, ps[k]? = some a := ⟨_, List.getElem?_eq_getElem (by rw [← HL.out]; exact hlt)⟩
      obtain ⟨g1, p1, c1, he1, a0, a1⟩ := (HX.out.below HB.out).pair ha
      cases he1
      have i1 : (0 : Int) ≤ (k : Int) := by omega
      have i2 : (k : Int) < (n : Int) := by omega
      have HA := Lib.hid (inAny_snoc (b := B) ha)
      have HIN : Hid (inAny ps B = true ∨ inP a B = false) := by
        cases e : inP a B
        · exact .inr rfl
        · refine .inl ?_
          unfold inAny
          rw [List.any_eq_true]
          exact ⟨a, List.mem_of_getElem? ha, e⟩
      clear ha
      go_wp2_with fail
      refine (hearc_any a B hv g o wr (HV.out.below HB.out)).mono ?_
      rintro e w1 ⟨rfl, hb1⟩
      have HB1 := Lib.hid (bmore HB.out hb1 HB.out.size)
      clear hb1 a0 a1
      cases hp : inP a B
      · have HT2 : Hid (inAny (ps.take (k + 1)) B = false) := by show _ = _; rw [HA.out, HT.out]; exact hp
        clear hp
        go_wp2
        go_roundw
        case rel => exact ⟨k + 1, by omega, by go_num, HT2, HB1⟩
        case measure => simp [intOf]; omega
      · have hz : IdxR ps B (k : Int) := by
          unfold IdxR
          rw [decide_eq_true i1]
          exact (HIN.out.resolve_right (by rw [hp]; decide)).symm
        have HZ := Lib.hid hz
        clear hp hz
        go_wp2
        go_ret
        exact ⟨_, rfl, HZ.out, HB1.out⟩
    · obtain rfl : k = n := by omega
      have hz : IdxR ps B (-1) := by
        have := HT.out
        rw [List.take_of_length_le (by rw [← HL.out]; omega)] at this
        unfold IdxR
        rw [this]; rfl
      have HZ := Lib.hid hz
      clear hz
      go_wp2
      go_ret
      exact ⟨_, rfl, HZ.out, HB.out⟩
theorem containsf_any (A : Option Addr) (c n : Nat) (ps : List (Int × Int)) (B : Int) (hv g o : Nat) (w : World) (hx : Reads w 2 (.slice A n c) n (ps.flatMap pairCells)) (hl : n = ps.length) (hn : n ≤ 10000000) (h : HvAt w hv g o B) :
    Calls Try.prog 37 #[.slice A n c, .func (.func 38) #[] #[.pointer (some ⟨hv, 0, none⟩)]] w fun e w' => e = .returned (.bool (inAny ps B)) ∧ Below w.heap.size w w' := by
  have HI := Lib.hid (indexf_any A c n ps B hv g o w hx hl hn h)
  clear hx hl h
  go_enter Try.func37, Try.ntmps37
  go_wp2_with fail
  refine HI.out.mono ?_
  rintro e w1 ⟨z, rfl, hz, hb⟩
  have hz2 : decide (0 ≤ z) = inAny ps B := hz
  have HZ := Lib.hid hz2
  clear hz hz2
  go_wp2
  go_ret
  exact ⟨by rw [← HZ.out]; rfl, hb⟩

theorem flat_set1 : ∀ (l : List Hole) (r : Nat) (o : Hole) (d : Int), l[r]? = some o → (l.flatMap holeCells).set (r * 4 + 1) (.int .i64 d) = (l.set r ⟨o.block, d, o.wait, o.tries⟩).flatMap holeCells
  | [], r, o, d, h => by simp at h
  | z :: l, 0, o, d, h => by simp at h; subst h; simp [holeCells]
  | z :: l, r + 1, o, d, h => by
    have ih := flat_set1 l r o d (by simpa using h)
    rw [List.set_cons_succ, List.flatMap_cons, List.flatMap_cons, ← ih, show (r + 1) * 4 + 1 = r * 4 + 1 + 4 by omega]
    simp [holeCells]
theorem GpAt.setDue {w : World} {b g k n : Nat} {l : List Hole} {f lg : Int} (h : GpAt w b (.slice (some ⟨g, 0, none⟩) n k) l f lg) {r : Nat} {o : Hole} (ho : l[r]? = some o) (d : Int) :
    GpAt (w.setCell ⟨g, r * 4 + 1, none⟩ (.int .i64 d)) b (.slice (some ⟨g, 0, none⟩) n k) (l.set r ⟨o.block, d, o.wait, o.tries⟩) f lg := by
  have hl : (l.flatMap holeCells).length = l.length * 4 := flatMap_length holeCells_len l
  have hne : b ≠ g := fun e => (h.ne (g := g) rfl).1 e.symm
  have hr := (List.getElem?_eq_some_iff.1 ho).1
  refine ⟨h.str.setOther hne _, ?_⟩
  rw [List.length_set, ← flat_set1 l r o d ho]
  exact ownsRow_set h.row (j := r * 4 + 1) (by omega) (.int .i64 d)
/-- the holes at a round of Hear -/
def hearAt (ps : List (Int × Int)) (now : Int) (l : List Hole) (k : Nat) : List Hole := (l.take k).map (heard ps now) ++ l.drop k
theorem hearAt_at {ps : List (Int × Int)} {now : Int} {l : List Hole} {k : Nat} {o : Hole} (h : l[k]? = some o) : (hearAt ps now l k)[k]? = some o := by
  have hk := (List.getElem?_eq_some_iff.1 h).1
  unfold hearAt
  rw [List.getElem?_append_right (by simp; omega)]
  simp [h, Nat.min_eq_left (Nat.le_of_lt hk)]
theorem hearAt_no {ps : List (Int × Int)} {now : Int} {l : List Hole} {k : Nat} {o : Hole} (h : l[k]? = some o) (hh : hears ps now o = false) : hearAt ps now l (k + 1) = hearAt ps now l k := by
  unfold hearAt
  rw [take_at h, drop_at h, List.map_append]
  simp [heard, hh]
theorem hearAt_yes {ps : List (Int × Int)} {now : Int} {l : List Hole} {k : Nat} {o : Hole} (h : l[k]? = some o) (hh : hears ps now o = true) : hearAt ps now l (k + 1) = (hearAt ps now l k).set k ⟨o.block, now + o.wait, o.wait, o.tries⟩ := by
  have hk := (List.getElem?_eq_some_iff.1 h).1
  unfold hearAt
  rw [List.set_append_right _ _ (by simp; omega)]
  rw [take_at h, drop_at h, List.map_append]
  simp [heard, hh, Nat.min_eq_left (Nat.le_of_lt hk)]
theorem hearAt_len {ps : List (Int × Int)} {now : Int} {l : List Hole} {k : Nat} : (hearAt ps now l k).length = l.length := by
  unfold hearAt; simp; omega
theorem hearAt_end {ps : List (Int × Int)} {now : Int} {l : List Hole} {k : Nat} (h : l.length ≤ k) : hearAt ps now l k = l.map (heard ps now) := by
  unfold hearAt; rw [List.take_of_length_le h, List.drop_of_length_le h, List.append_nil]

set_option maxRecDepth 100000 in
set_option maxHeartbeats 4000000 in
theorem hear_any (K b : Nat) (v : Value) (l : List Hole) (f lg now : Int) (pA : Option Addr) (pc pn : Nat) (ps : List (Int × Int)) (w : World) (h : GpAt w b v l f lg) (hr : Rl K l) (hn : l.length ≤ 100000) (hp : Reads w 2 (.slice pA pn pc) pn (ps.flatMap pairCells)) (hpl : pn = ps.length) (hpn : pn ≤ 10000000) (hpv : ∀ g, (Value.slice pA pn pc).ownBlock = some g → 0 < pn → v.ownBlock ≠ some g) :
    Calls Try.prog 28 #[.pointer (some ⟨b, 0, none⟩), .slice pA pn pc, .int .i64 now] w fun e w' => e = .returned (.int .i64 (heardN ps now l)) ∧ GpAt w' b v (l.map (heard ps now)) f lg ∧ Keep (fun k => v.ownBlock = some k) w w' := by
  have HT := Lib.hid (fun w => (time_any now w).mono (fun e w' (h : e = _ ∧ w = w') => (⟨h.1, h.2.symm⟩ : e = .returned (.bool (inT now)) ∧ w' = w)))
  obtain ⟨A, c, hv⟩ := h.slice
  obtain ⟨n, hnn⟩ : ∃ n, n = l.length := ⟨_, rfl⟩
  rw [← hnn] at hv
  have H0 : Hid (GpAt w b v (hearAt ps now l 0) f lg) := by show GpAt _ _ _ _ _ _; unfold hearAt; simpa using h
  subst hv
  obtain ⟨c0, c1, c2⟩ := blk3 h.str
  rw [← hnn] at hn
  have HN := Lib.hid hnn
  have HR := Lib.hid hr
  have HP := Lib.hid hp
  have HPL := Lib.hid hpl
  have HPV := Lib.hid hpv
  have hlv : ∀ g, (Value.slice A n c).ownBlock = some g → g < w.heap.size := fun g hg => (h.ne hg).2
  have HLV := Lib.hid hlv
  have hbw : b < w.heap.size := h.str.lt
  clear h hnn hr hlv hp hpl hpv
  go_enter Try.func28, Try.ntmps28
  go_wp2
  clear c0 c1 c2
  go_loopw [7, 8, 9, 10, 16] (fun q _ _ _ i wr => ∃ k m : Nat, k ≤ n ∧ m ≤ k ∧ i = .int .i64 k ∧ q = .int .i64 m ∧ Hid (m = heardN ps now (l.take k)) ∧ Hid (GpAt wr b (.slice A n c) (hearAt ps now l k) f lg) ∧ Hid (Keep (fun k => (Value.slice A n c).ownBlock = some k) w wr)) (fun _ _ _ _ i _ => n - (intOf i).toNat)
  case atStart => exact ⟨0, 0, by omega, by omega, rfl, rfl, rfl, H0, Keep.refl _ _⟩
  case round =>
    obtain ⟨k, m, hk, hmk, rfl, rfl, HM, HG, HK⟩ := hrel
    by_cases hlt : k < n
    · obtain ⟨x, hx⟩ : ∃ x, l[k]? = some x := ⟨_, List.getElem?_eq_getElem (by rw [← HN.out]; exact hlt)⟩
      obtain ⟨b0, b1, d0, d1, w0, w1, t0, t1⟩ := HR.out.fine x (List.mem_of_getElem? hx)
      have hx1 := hearAt_at (ps := ps) (now := now) hx
      have hrow := HG.out.row
      rcases hrow.2 with ⟨hv0, hz⟩ | ⟨g, cap, cur, hv, -⟩
      · rw [hearAt_len, ← HN.out] at hz; omega
      have hv2 : (Value.slice A n c) = .slice (some ⟨g, 0, none⟩) n cap := by rw [hv, hearAt_len, ← HN.out]
      cases hv2
      obtain ⟨c0, c1, c2⟩ := blk3 HG.out.str
      obtain ⟨o0, o1, o2, o3⟩ := HG.out.one hx1
      have i1 : (0 : Int) ≤ (k : Int) := by omega
      have i2 : (k : Int) < (n : Int) := by omega
      have hgr : g < wr.heap.size := (HG.out.ne (g := g) rfl).2
      have HX := Lib.hid hx
      have HX1 := Lib.hid hx1
      have HPR := Lib.hid (HP.out.keep HK.out (fun g' hg' h0 e => HPV.out g' hg' h0 e))
      have hba : Below wr.heap.size wr (wr.alloc (.cells #[.pointer (some ⟨g, k * 4, none⟩)] 63)) := (Below.refl _ wr).alloc (Nat.le_refl _) _
      have hhv : HvAt (wr.alloc (.cells #[.pointer (some ⟨g, k * 4, none⟩)] 63)) wr.heap.size g (k * 4) x.block :=
        ⟨(Blk.new wr #[.pointer (some ⟨g, k * 4, none⟩)] 63).cell 0 rfl, (hba.cell (p := ⟨g, k * 4, none⟩) hgr).trans o0, by simp, by simp; omega⟩
      have HCF := Lib.hid (containsf_any pA pc pn ps x.block wr.heap.size g (k * 4) _ (HPR.out.below hba) HPL.out hpn hhv)
      have HGA := Lib.hid (HG.out.below hba)
      have HBA := Lib.hid hba
      have HHV := Lib.hid (Blk.new wr #[.pointer (some ⟨g, k * 4, none⟩)] 63)
      clear hx hx1 hrow hv hba hhv
      go_wp2_with fail
      refine HCF.out.mono ?_
      rintro e w2 ⟨rfl, hb2⟩
      have HG2 := Lib.hid (HGA.out.below hb2)
      have HK2 : Hid (Keep (fun k => (Value.slice (some ⟨g, 0, none⟩) n c).ownBlock = some k) w w2) := HK.out.trans (Keep.none (bmore HBA.out hb2 HBA.out.size)) (fun _ _ h => h.elim)
      have HV2 := Lib.hid (HHV.out.below hb2)
      clear hb2 c0 c1 c2 o0 o1 o2 o3 HCF
      obtain ⟨c0, c1, c2⟩ := blk3 HG2.out.str
      obtain ⟨o0, o1, o2, o3⟩ := HG2.out.one HX1.out
      have v0 := HV2.out.cell 0 rfl
      have hv8 : wr.heap.size < w2.heap.size := HV2.out.lt
      have hg8 : g < w2.heap.size := (HG2.out.ne (g := g) rfl).2
      cases hin : inAny ps x.block
      · have hh : hears ps now x = false := by unfold hears; rw [hin]; rfl
        have HH := Lib.hid (heardN_no HX.out hh).1
        have HA := Lib.hid (hearAt_no HX.out hh)
        clear hin hh
        go_wp2_with fail
        go_quiet (fail)
        go_wp2
        go_roundw
        case rel => exact ⟨k + 1, m, by omega, by omega, by go_num, rfl, Lib.hid (by rw [HH.out, HM.out]), Lib.hid (by rw [HA.out]; exact HG2.out.drewN nq), Lib.hid (HK2.out.drewN nq)⟩
        case measure => simp [intOf]; omega
      · cases ht : inT now
        · have hh : hears ps now x = false := by unfold hears; rw [ht]; simp
          have HH := Lib.hid (heardN_no HX.out hh).1
          have HA := Lib.hid (hearAt_no HX.out hh)
          rw [ht] at HT
          clear hin hh ht
          go_wp2_with fail
          go_quiet ((go_at_call 21; exact Calls.quiet_of_same (HT.out _)))
          go_wp2
          go_roundw
          case rel => exact ⟨k + 1, m, by omega, by omega, by go_num, rfl, Lib.hid (by rw [HH.out, HM.out]), Lib.hid (by rw [HA.out]; exact HG2.out.drewN nq), Lib.hid (HK2.out.drewN nq)⟩
          case measure => simp [intOf]; omega
        · obtain ⟨n1, n2⟩ := inT_iff.1 ht
          have W1 : IntKind.i64.wrap (now + x.wait) = now + x.wait := IntWalk.i64_in _ (by omega)
          by_cases hd : x.due < now + x.wait
          · have hh : hears ps now x = true := by unfold hears; rw [hin, ht, decide_eq_true hd]; rfl
            have HH := Lib.hid (heardN_yes HX.out hh).1
            have HA := Lib.hid (hearAt_yes HX.out hh)
            have f1 := ownsRow_frozen HG2.out.row (k * 4 + 1)
            have hne : wr.heap.size ≠ g := by omega
            rw [ht] at HT
            have HQ := Lib.hid (fun j : Nat => (HG2.out.drewN j).setDue HX1.out (now + x.wait))
            clear hin hh ht
            go_wp2_with fail
            go_quiet ((go_at_call 21; exact Calls.quiet_of_same (HT.out _)))
            go_wp2_with fail
            go_region
            have HG3 := Lib.hid (HQ.out (nq + 1))
            have HK3 := Lib.hid ((HK2.out.drewN (nq + 1)).setCell (p := ⟨g, k * 4 + 1, none⟩) (.inl rfl) (.int .i64 (now + x.wait)))
            clear W1 HQ
            go_wp2
            go_roundw
            case rel => exact ⟨k + 1, m + 1, by omega, by omega, by go_num, by go_num, Lib.hid (by rw [HH.out, HM.out]), Lib.hid (by rw [HA.out]; exact HG3.out), HK3⟩
            case measure => simp [intOf]; omega
          · have hh : hears ps now x = false := by unfold hears; rw [decide_eq_false hd]; simp
            have HH := Lib.hid (heardN_no HX.out hh).1
            have HA := Lib.hid (hearAt_no HX.out hh)
            have hd2 : now + x.wait ≤ x.due := by omega
            rw [ht] at HT
            clear hin hh ht
            go_wp2_with fail
            go_quiet ((go_at_call 21; exact Calls.quiet_of_same (HT.out _)))
            clear W1
            go_wp2
            go_roundw
            case rel => exact ⟨k + 1, m, by omega, by omega, by go_num, rfl, Lib.hid (by rw [HH.out, HM.out]), Lib.hid (by rw [HA.out]; exact HG2.out.drewN nq), Lib.hid (HK2.out.drewN nq)⟩
            case measure => simp [intOf]; omega
    · obtain rfl : k = n := by omega
      have hm := HM.out
      have hg := HG.out
      rw [List.take_of_length_le (by rw [← HN.out]; omega)] at hm
      rw [hearAt_end (by rw [← HN.out]; omega)] at hg
      have HMM := Lib.hid hm
      have HGG := Lib.hid hg
      clear hm hg
      go_wp2
      go_ret
      exact ⟨by rw [← HMM.out]; rfl, HGG.out, HK.out⟩
end Go.Proofs.Ytkgngmmlfoiajaa
