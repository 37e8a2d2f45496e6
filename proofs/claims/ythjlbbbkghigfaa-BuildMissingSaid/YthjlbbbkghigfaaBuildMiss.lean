/- build: the law BuildMissing. -/
import Derived.Test.YthjlbbbkghigfaaBuildOps
namespace Go.Proofs.Ythjlbbbkghigfaa
open Go.RowKit
set_option linter.unusedVariables false
set_option linter.unusedSimpArgs false

set_option maxRecDepth 100000 in
set_option maxHeartbeats 1000000 in
theorem miss_no (s k n : Int) (A : Option Addr) (m c : Nat) (K : Int) (w : World) (hz : rightC s k n m = false) :
    Calls Try.prog 4 #[.agg #[.int .i64 s, .int .i64 k, .int .i64 n, .slice A m c], .int .i64 K] w fun e w' => e = .returned (.bool true) ∧ Below w.heap.size w w' := by
  have HR := Lib.hid (fun w => right26_any s k n A m c w)
  rw [hz] at HR
  have hbz := Blk.new w #[.int .i64 s, .int .i64 k, .int .i64 n, .slice A m c] 24
  have HB := Lib.hid ((Below.refl _ w).alloc (Nat.le_refl w.heap.size) (.cells #[.int .i64 s, .int .i64 k, .int .i64 n, .slice A m c] 24))
  obtain ⟨c0, c1, c2, c3⟩ := blk4 hbz
  clear hbz hz
  go_enter Try.func4, Try.ntmps4
  go_wp2_with fail
  refine (HR.out _).mono ?_
  rintro e w1 ⟨rfl, hb1⟩
  have HB1 := Lib.hid (bmore HB.out hb1 HB.out.size)
  clear hb1
  go_wp2_with fail
  refine (awake_any _).mono ?_
  rintro e w2 ⟨rfl, hb2⟩
  have HB2 := Lib.hid (bmore HB1.out hb2 HB1.out.size)
  clear hb2
  go_wp2
  go_ret
  exact ⟨rfl, HB2.out⟩
set_option maxRecDepth 100000 in
set_option maxHeartbeats 8000000 in
theorem miss_yes (s k n : Nat) (A : Option Addr) (m c : Nat) (K : Int) (ops : List OpB) (w : World) (hz : rightC s k n m = true) (hp : PlanOk s k n) (hs4 : s ≤ 400) (hm : m ≤ 60) (h : OpsIn w (.slice A m c) ops) (hl : m = ops.length) :
    Calls Try.prog 4 #[.agg #[.int .i64 s, .int .i64 k, .int .i64 n, .slice A m c], .int .i64 K] w fun e w' => e = .returned (.bool true) ∧ Below w.heap.size w w' := by
  have HR := Lib.hid (fun w => right26_any s k n A m c w)
  rw [hz] at HR
  have hbz := Blk.new w #[.int .i64 s, .int .i64 k, .int .i64 n, .slice A m c] 24
  have hba : Below w.heap.size w (w.alloc (.cells #[.int .i64 s, .int .i64 k, .int .i64 n, .slice A m c] 24)) := (Below.refl _ w).alloc (Nat.le_refl _) _
  have HX := Lib.hid (h.below hba)
  have HL := Lib.hid hl
  have HP := Lib.hid hp
  obtain ⟨x0, x1, x2, x3⟩ := blk4 hbz
  have HBZ := Lib.hid hbz
  have HBA := Lib.hid hba
  have HNW := Lib.hid (fun w => bnew_yes s k n w hp)
  obtain ⟨i0, hi, hz0, hz1, hz2⟩ := info_parts info_pair
  have HI0 := Lib.hid hi
  have HZ0 := Lib.hid hz0
  have HZ1 := Lib.hid hz1
  have HZ2 := Lib.hid hz2
  clear h hl hbz hba hz hp hi hz0 hz1 hz2
  go_enter Try.func4, Try.ntmps4
  go_wp2_with fail
  generalize w.alloc (.cells #[.int .i64 s, .int .i64 k, .int .i64 n, .slice A m c] 24) = wz at *
  refine (HR.out wz).mono ?_
  rintro e w0 ⟨rfl, hb0⟩
  have HX0 := Lib.hid (HX.out.below hb0)
  have HB0 := Lib.hid (HBZ.out.below hb0)
  have HBB0 := Lib.hid (bmore HBA.out hb0 HBA.out.size)
  clear hb0 x0 x1 x2 x3
  obtain ⟨x0, x1, x2, x3⟩ := blk4 HB0.out
  have hw0 : w.heap.size < w0.heap.size := HB0.out.lt
  go_wp2_with fail
  refine (HNW.out w0).mono ?_
  rintro e w1 ⟨x, rfl, hx, ex, nx, b1⟩
  obtain ⟨b, hb⟩ : ∃ b, b = x.b := ⟨_, rfl⟩
  have HS1 : Hid (StB w0 w1 b s k n x) := ⟨hx.out, nx.out, b1.out, hb.symm, ex.out.1, ex.out.2.1, ex.out.2.2.1⟩
  have HPL := Lib.hid (bplan_any x w1 hx.out)
  have HLL : Hid (x.log.length ≤ 0) := by show _ ≤ _; rw [ex.out.2.2.2.2.2.1]; exact Nat.le_refl _
  rw [← hb] at HPL ⊢
  have B1 := Lib.hid (HB0.out.belowAt b1.out hw0)
  clear hb hx ex nx b1 x0 x1 x2 x3
  obtain ⟨x0, x1, x2, x3⟩ := blk4 B1.out
  go_wp2_with fail
  refine HPL.out.mono ?_
  rintro e w2 ⟨rfl, rfl⟩
  clear HPL
  go_wp2_with fail
  clear x0 x1 x2 x3
  go_loopw [40] (fun i wr => ∃ (j : Nat) (x : BuS), j ≤ m ∧ i = .int .i64 j ∧ Hid (StB w0 wr b s k n x) ∧ Hid (x.log.length ≤ j)) (fun i _ => m - (intOf i).toNat)
  case atStart => exact ⟨0, x, by omega, rfl, HS1, HLL⟩
  case round =>
    obtain ⟨j, x, hj, rfl, HS, HG⟩ := hrel
    by_cases hlt : j < m
    · obtain ⟨⟨kd, bk, tk, tv, tx⟩, ho⟩ : ∃ o, ops[j]? = some o := ⟨_, List.getElem?_eq_getElem (by rw [← HL.out]; exact hlt)⟩
      have hin := HX0.out.all _ (List.mem_of_getElem? ho)
      obtain ⟨tA, tc, htv, -⟩ := hin.rd.val
      have htv : tv = .slice tA tx.length tc := htv
      obtain ⟨tn, htn⟩ : ∃ tn, tn = tx.length := ⟨_, rfl⟩
      rw [← htn] at htv
      subst htv
      obtain ⟨g, p, c0, he, o0, o1, o2, o3⟩ := (HX0.out.below HS.out.bel).at ho
      rw [← HL.out] at he
      cases he
      have i1 : (0 : Int) ≤ (j : Int) := by omega
      have i2 : (j : Int) < (m : Int) := by omega
      have hbo : Below wr.heap.size wr (wr.alloc (.cells #[.int .i64 kd, .int .i64 bk, .int .i64 tk, .slice tA tn tc] 34)) := (Below.refl _ wr).alloc (Nat.le_refl _) _
      have HS2 := Lib.hid (HS.out.below hbo)
      have hput := put_op x ⟨kd, bk, tk, .slice tA tn tc, tx⟩ w0 _ b s k n hin HS2.out (by have := HG.out; omega)
      have HPT := Lib.hid hput
      clear ho hin hbo hput htn
      by_cases hkd : kd = 1
      · have t1 : (kd == 1) = true := by simp [hkd]
        clear hkd
        go_wp2_with fail
        refine HPT.out.mono ?_
        rintro e w3 ⟨x', rfl, r⟩
        have HS3 := Lib.hid (HS2.out.put r)
        have HG3 : Hid (x'.log.length ≤ j + 1) := by show _ ≤ _; have := r.len; have := HG.out; omega
        clear r o0 o1 o2 o3
        go_wp2
        go_roundw
        case rel => exact ⟨j + 1, x', by omega, by go_num, HS3, HG3⟩
        case measure => simp [intOf]; omega
      · have t1 : (kd == 1) = false := by simp [hkd]
        clear hkd
        have HG3 : Hid (x.log.length ≤ j + 1) := by show _ ≤ _; have := HG.out; omega
        go_wp2
        go_roundw
        case rel => exact ⟨j + 1, x, by omega, by go_num, HS2, HG3⟩
        case measure => simp [intOf]; omega
    · obtain rfl : j = m := by omega
      obtain ⟨wb, hwb⟩ : ∃ wb : World, wb = wr := ⟨_, rfl⟩
      rw [← hwb] at HS ⊢
      clear hwb
      have hpl : PlanAt wb x.pb s k n := by have := HS.out.at_.plan; rwa [HS.out.s_, HS.out.k_, HS.out.n_] at this
      have HPL := Lib.hid (bplan_any x wb HS.out.at_)
      have HBL := Lib.hid (blocks_any x.pb s k n wb hpl HP.out)
      have HMS := Lib.hid (fun w h => missing_any x K w h)
      rw [HS.out.b_] at HPL HMS
      obtain ⟨z, hz⟩ : ∃ z, z = nb s k := ⟨_, rfl⟩
      have hz16 : z ≤ 16384 := by rw [hz]; exact nb_le HP.out.1 HP.out.2.1
      have HZ := Lib.hid hz
      rw [← hz] at HBL
      obtain ⟨f, hf⟩ : ∃ f : Int → Bool, f = fun i => uptoB n K z i && !cov x.L i := ⟨_, rfl⟩
      have HF := Lib.hid hf
      clear hz hf hpl
      go_wp2_with fail
      refine HPL.out.mono ?_
      rintro e w3 ⟨rfl, rfl⟩
      go_wp2_with fail
      refine HBL.out.mono ?_
      rintro e w4 ⟨rfl, hb4⟩
      have HS4 := Lib.hid (HS.out.below hb4)
      obtain ⟨wq, hwq⟩ : ∃ wq : World, wq = w4 := ⟨_, rfl⟩
      rw [← hwq] at HS4 ⊢
      clear hwq hb4 HPL HBL
      go_wp2_with fail
      go_loopw [9, 59] (fun o i wr => ∃ (q : Nat) (S : List (Int × Int)) (A : Option Addr) (c : Nat), q ≤ z ∧ i = .int .i64 q ∧ o = .slice A S.length c ∧ Hid (StrI f true 0 q S) ∧ Hid (wr.ownsRow wq.heap.size 46 2 (.slice A S.length c) S.length (S.flatMap pairCells)) ∧ Hid (Below wq.heap.size wq wr)) (fun _ i _ => z - (intOf i).toNat)
      case atStart => exact ⟨0, [], none, 0, by omega, rfl, rfl, StrI.start f true 0, ⟨by simp, .inl ⟨rfl, rfl⟩⟩, Below.refl _ _⟩
      case round =>
        obtain ⟨q, S, A', c', hq, rfl, rfl, HI, HO, HB⟩ := hrel
        by_cases hlt : q < z
        · have hxr := HS4.out.at_.below HB.out
          have hbx := HB0.out.belowAt (bmore HS4.out.bel HB.out HS4.out.bel.size) hw0
          have HHA := Lib.hid (bhas_any x q wr hxr (by omega))
          rw [HS.out.b_] at HHA
          have HLY := Lib.hid (fun w => reflayer_any q n w (by omega) HP.out.2.2.2)
          have HFQ : Hid (f q = (decide ((lyr n q : Int) ≤ K) && !cov x.L q)) := by
            show _ = _
            rw [HF.out]
            show (uptoB n K z q && !cov x.L q) = _
            unfold uptoB
            rw [decide_eq_true (show 0 ≤ (q : Int) ∧ (q : Int) < z by omega), Bool.true_and, Int.toNat_natCast]
          have HBX := Lib.hid hbx
          obtain ⟨cb, hcb⟩ : ∃ cb, cb = cov x.L q := ⟨_, rfl⟩
          rw [← hcb] at HHA HFQ
          obtain ⟨ly, hly⟩ : ∃ ly, ly = lyr n q := ⟨_, rfl⟩
          rw [← hly] at HLY HFQ
          clear hxr hbx hcb hly
          go_wp2_with fail
          refine HHA.out.mono ?_
          rintro e w5 ⟨rfl, hb5⟩
          have HB5 := Lib.hid (bmore HB.out hb5 HB.out.size)
          have HO5 : Hid (w5.ownsRow wq.heap.size 46 2 (.slice A' S.length c') S.length (S.flatMap pairCells)) := ownsRow_keep HO.out (Keep.none hb5) (fun _ _ => id)
          have HBX5 := HBX.out.belowAt hb5 HBX.out.lt
          obtain ⟨x0, x1, x2, x3⟩ := blk4 HBX5
          clear hb5 HBX5 x0 x1 x3
          cases cb with
          | true =>
            have HI2 := Lib.hid (HI.out.skip (by omega) (by rw [HFQ.out]; simp))
            go_wp2
            go_roundw
            case rel => exact ⟨q + 1, S, A', c', by omega, by go_num, rfl, HI2, HO5, HB5⟩
            case measure => simp [intOf]; omega
          | false =>
            go_wp2_with fail
            refine (HLY.out w5).mono ?_
            rintro e w6 ⟨rfl, rfl⟩
            by_cases hlk : (ly : Int) ≤ K
            · have hf : (f q == true) = true := by rw [HFQ.out, decide_eq_true hlk]; rfl
              have t1 : ¬ K < (ly : Int) := by omega
              have hs := HB5.out.size
              have hSl := HI.out.1.len'
              clear hlk x2
              rcases List.eq_nil_or_concat S with rfl | ⟨S0, ⟨xa, xb⟩, rfl⟩
              · have HI2 := Lib.hid (HI.out.new (by omega) (by omega) (by omega) hf (fun x hx => by cases hx))
                clear hf
                go_wp2_with (at_builtin; refine wpList_app1 rfl _ _ 44 rfl wq.heap.size 46 i0 (.agg #[.int .i64 0, .int .i64 0]) 2 16 Try.underlying44 HI0.out HZ0.out HZ1.out HZ2.out rfl _ 0 _ rfl HO5.out #[.int .i64 (q : Int), .int .i64 ((q : Int) + 1)] 1 rfl rfl (by intro u hu; simp at hu; rcases hu with rfl | rfl <;> rfl) (by omega) (by omega) hs ?_; rintro A2 c2 w2 hown2 hk2 - -)
                have HB2 : Hid (Below wq.heap.size wq w2) := bkeep HB5.out hk2 (Nat.le_refl _) (fun k hk => (own_lt HO5.out hk).1)
                have HO2 : Hid (w2.ownsRow wq.heap.size 46 2 (.slice A2 ([((q : Int), (q : Int) + 1)] : List (Int × Int)).length c2) ([((q : Int), (q : Int) + 1)] : List (Int × Int)).length ([((q : Int), (q : Int) + 1)].flatMap pairCells)) := hown2
                clear hown2 hk2
                go_wp2
                go_roundw
                case rel => exact ⟨q + 1, [((q : Int), (q : Int) + 1)], A2, c2, by omega, by go_num, rfl, by simpa using HI2, HO2, HB2⟩
                case measure => simp [intOf]; omega
              · obtain ⟨k', hk⟩ : ∃ k, k = S0.length := ⟨_, rfl⟩
                rw [List.concat_eq_append] at HO5 HI hSl ⊢
                have hl : (S0 ++ [(xa, xb)]).length = k' + 1 := by rw [List.length_append, hk]; rfl
                have HL' := Lib.hid hl
                have HKK := Lib.hid hk
                rw [hl] at HO5 hSl ⊢
                obtain ⟨A'', c'', e', hkc, h2, h3, h4⟩ := ownsRow_shape HO5.out
                cases e'
                obtain ⟨G, rfl⟩ : ∃ G, A' = some ⟨G, 0, none⟩ := by
                  cases A' with
                  | none => have := (h2 rfl).1; omega
                  | some a => exact h4 a rfl
                have hfl : ((S0 ++ [(xa, xb)]).flatMap pairCells)[k' * 2 + 1]? = some (.int .i64 xb) := by
                  rw [List.flatMap_append, List.getElem?_append_right (by rw [flatMap_length pairCells_len, ← hk]; omega), flatMap_length pairCells_len, ← hk, Nat.add_sub_cancel_left]; rfl
                have y1 : w5.cell? ⟨G, k' * 2 + 1, none⟩ = some (.int .i64 xb) := ownsRow_cell HO5.out hfl
                have y2 := ownsRow_frozen HO5.out (k' * 2 + 1)
                simp only at y2
                have t5 : (0 : Int) ≤ (k' : Int) := by omega
                have t6 : (k' : Int) < (k' : Int) + 1 := by omega
                clear hl hk h2 h3 h4
                by_cases hx : xb = (q : Int)
                · have HI2 := Lib.hid (HI.out.on (by omega) (by omega) hf hx)
                  subst hx
                  have HL2 : Hid ((S0 ++ [(xa, (q : Int) + 1)]).length = k' + 1) := by show _ = _; rw [List.length_append, HKK.out]; rfl
                  have HO2 : Hid ((w5.setCell ⟨G, k' * 2 + 1, none⟩ (.int .i64 ((q : Int) + 1))).ownsRow wq.heap.size 46 2 (.slice (some ⟨G, 0, none⟩) (k' + 1) c') (k' + 1) ((S0 ++ [(xa, (q : Int) + 1)]).flatMap pairCells)) := by
                    have ho := ownsRow_set HO5.out (j := k' * 2 + 1) (List.getElem?_eq_some_iff.1 hfl).1 (.int .i64 ((q : Int) + 1))
                    rw [flat_last HKK.out.symm] at ho
                    exact ho
                  have HB2 : Hid (Below wq.heap.size wq (w5.setCell ⟨G, k' * 2 + 1, none⟩ (.int .i64 ((q : Int) + 1)))) := bkeep HB5.out ((Keep.refl (fun j => j = G) w5).setCell (p := ⟨G, k' * 2 + 1, none⟩) (.inl rfl) _) (Nat.le_refl _) (fun j hj => by rw [hj]; exact (own_lt HO5.out rfl).1)
                  have t3 : ((q : Int) == (q : Int)) = true := by simp
                  clear hf hfl
                  have w1 : IntKind.i64.wrap ((q : Int) + 1) = (q : Int) + 1 := IntWalk.i64_in _ (by omega)
                  go_wp2_with fail
                  go_region
                  clear w1
                  go_wp2
                  go_roundw
                  case rel => exact ⟨q + 1, S0 ++ [(xa, (q : Int) + 1)], some ⟨G, 0, none⟩, c', by omega, by go_num, by rw [HL2.out], by simpa using HI2, by rw [HL2.out]; exact HO2.out, below_drewN HB2.out 1⟩
                  case measure => simp [intOf]; omega
                · have HI2 := Lib.hid (HI.out.new (by omega) (by omega) (by omega) hf (HI.out.last hx))
                  have HL2 : Hid ((S0 ++ [(xa, xb)] ++ [((q : Int), (q : Int) + 1)]).length = k' + 1 + 1) := by show _ = _; rw [List.length_append, HL'.out]; rfl
                  have t3 : (xb == (q : Int)) = false := by simpa using hx
                  clear hf hfl hx
                  go_wp2_with (at_builtin; refine wpList_app1 rfl _ _ 44 rfl wq.heap.size 46 i0 (.agg #[.int .i64 0, .int .i64 0]) 2 16 Try.underlying44 HI0.out HZ0.out HZ1.out HZ2.out rfl _ (k' + 1) _ rfl HO5.out #[.int .i64 (q : Int), .int .i64 ((q : Int) + 1)] 1 rfl rfl (by intro u hu; simp at hu; rcases hu with rfl | rfl <;> rfl) (by omega) (by omega) hs ?_; rintro A2 c2 w2 hown2 hk2 - -)
                  have HB2 : Hid (Below wq.heap.size wq w2) := bkeep HB5.out hk2 (Nat.le_refl _) (fun k hk => (own_lt HO5.out hk).1)
                  have HO2 : Hid (w2.ownsRow wq.heap.size 46 2 (.slice A2 (k' + 1 + 1) c2) (k' + 1 + 1) ((S0 ++ [(xa, xb)] ++ [((q : Int), (q : Int) + 1)]).flatMap pairCells)) := by
                    show World.ownsRow ..
                    rw [List.flatMap_append (xs := S0 ++ [(xa, xb)])]; exact hown2
                  clear hown2 hk2
                  go_wp2
                  go_roundw
                  case rel => exact ⟨q + 1, S0 ++ [(xa, xb)] ++ [((q : Int), (q : Int) + 1)], A2, c2, by omega, by go_num, by rw [HL2.out], by simpa using HI2, by rw [HL2.out]; exact HO2, HB2⟩
                  case measure => simp [intOf]; omega
            · have HI2 := Lib.hid (HI.out.skip (by omega) (by rw [HFQ.out, decide_eq_false hlk]; rfl))
              have t1 : K < (ly : Int) := by omega
              clear hlk
              go_wp2
              go_roundw
              case rel => exact ⟨q + 1, S, A', c', by omega, by go_num, rfl, by simpa using HI2, HO5, HB5⟩
              case measure => simp [intOf]; omega
        · obtain rfl : q = z := by omega
          have hxr := HS4.out.at_.below HB.out
          have HM := Lib.hid (HMS.out wr hxr)
          obtain ⟨ns, hns⟩ : ∃ ns, ns = S.length := ⟨_, rfl⟩
          have HNS := Lib.hid hns
          have hSl := HI.out.1.len'
          rw [← hns] at HO hSl ⊢
          clear hxr hns
          go_wp2_with fail
          refine HM.out.mono ?_
          rintro e w5 ⟨M, AM, cM, rfl, g5, cv5, ho5, hb5⟩
          have hMS : M = S := good_uniq g5 HI.out.1 (fun i => by
            rw [cv5, HI.out.2, HF.out, HS.out.n_, HS.out.s_, HS.out.k_, ← HZ.out]
            show _ = (inB 0 (q : Int) i && ((uptoB n K q i && !cov x.L i) == true))
            unfold uptoB inB
            by_cases e : 0 ≤ i ∧ i < (q : Int)
            · simp [e.1, e.2]
            · rw [decide_eq_false e]
              simp <;> (intros; omega))
          subst hMS
          rw [← HNS.out] at ho5 ⊢
          have HO5 := Lib.hid (Reads.of_owns ho5)
          have HR5 := Lib.hid ((Reads.of_owns HO.out).below hb5)
          have HBF := Lib.hid (bmore (bmore HBB0.out (HS4.out.bel) HBB0.out.size) (bmore HB.out hb5 HB.out.size) (Nat.le_trans HBB0.out.size HS4.out.bel.size))
          have HPY := Lib.hid (pairs_yes AM A' cM c' ns M w5 HO5.out HR5.out (by omega) HNS.out)
          clear ho5 hb5 g5 cv5
          go_wp2_with fail
          refine HPY.out.mono ?_
          rintro e w6 ⟨rfl, dn, rfl⟩
          have HBF6 := Lib.hid (below_drewN HBF.out dn)
          generalize w5.drewN dn = w6 at *
          go_wp2_with fail
          refine (awake_any w6).mono ?_
          rintro e w7 ⟨rfl, hb7⟩
          have HB7 := Lib.hid (bmore HBF6.out hb7 HBF6.out.size)
          clear hb7
          go_wp2
          go_ret
          exact ⟨rfl, HB7.out⟩
theorem buildMissing_any (s k n : Int) (v : Value) (K : Int) (ops : List OpB) (w : World) (h : OpsIn w v ops) :
    Calls Try.prog 4 #[.agg #[.int .i64 s, .int .i64 k, .int .i64 n, v], .int .i64 K] w fun e w' => e = .returned (.bool true) ∧ Below w.heap.size w w' := by
  obtain ⟨A, c, rfl, -⟩ := h.rd.val
  cases hz : rightC s k n ops.length with
  | false => exact miss_no s k n A _ c K w hz
  | true =>
    obtain ⟨s', k', n', rfl, rfl, rfl, hp, hs, hm⟩ := rightC_ok hz
    exact miss_yes s' k' n' A _ c K ops w hz hp hs hm h rfl
end Go.Proofs.Ythjlbbbkghigfaa
