/- stripe: the law StripeLayers. -/
import Derived.Test.YtoofhjhnfeamgaaStOf2
import Derived.BigQuiet
namespace Go.Proofs.Ytoofhjhnfeamgaa
open Go.RowKit Go.Shelf
attribute [local go_sem] Oper.semAt_some
set_option linter.unusedVariables false
set_option linter.unusedSimpArgs false

/-- whatever the order, one end: the ways meet again -/
theorem meetIn {F : Fence} {n : Nat} {P : Program} {c : Code} {K : Act → World → Prop} {Q : Exit → Act → World → Prop} {a : Act} {w : World} {A : Act} {W : World} (first : ∀ K' : Act → World → Prop, K' A W → c.wpIn F n P (Exit.then K' Q) a w) (rest : K A W) : c.wpIn F n P (Exit.then K Q) a w := first K rest
theorem meet {P : Program} {c : Code} {K : Act → World → Prop} {Q : Exit → Act → World → Prop} {a : Act} {w : World} {A : Act} {W : World} (first : ∀ K' : Act → World → Prop, K' A W → c.wp P (Exit.then K' Q) a w) (rest : K A W) : c.wp P (Exit.then K Q) a w := first K rest
theorem mixed_ok : Try.prog.follows .mixedOrders = true := by kernel_rfl
/-- the four boxes at the law's head -/
theorem boxes4 (w : World) (s k n : Int) (m stop : Int) : ∃ wz, wz = (((w.alloc (.cells #[.int .i64 s, .int .i64 k, .int .i64 n] 23)).alloc (.cells #[.int .i64 m] 3)).alloc (.cells #[.int .i64 stop] 3)).alloc (.cells #[.bool false] 4) ∧
    Hid (Below w.heap.size w wz) ∧ Hid (Blk wz w.heap.size #[.int .i64 s, .int .i64 k, .int .i64 n] 23) ∧ Hid (Blk wz (w.heap.size + 1) #[.int .i64 m] 3) ∧ Hid (Blk wz (w.heap.size + 1 + 1) #[.int .i64 stop] 3) ∧ Hid (Blk wz (w.heap.size + 1 + 1 + 1) #[.bool false] 4) := by
  refine ⟨_, rfl, ?_, ?_, ?_, ?_, ?_⟩
  · exact ((((Below.refl _ w).alloc (Nat.le_refl _) _).alloc (by simp) _).alloc (by simp; omega) _).alloc (by simp; omega) _
  · exact (((Blk.new w _ _).alloc _).alloc _).alloc _
  · have h := Blk.new (w.alloc (.cells #[.int .i64 s, .int .i64 k, .int .i64 n] 23)) #[.int .i64 m] 3
    rw [World.size_alloc] at h
    exact (h.alloc _).alloc _
  · have h := Blk.new ((w.alloc (.cells #[.int .i64 s, .int .i64 k, .int .i64 n] 23)).alloc (.cells #[.int .i64 m] 3)) #[.int .i64 stop] 3
    rw [World.size_alloc, World.size_alloc] at h
    exact h.alloc _
  · have h := Blk.new (((w.alloc (.cells #[.int .i64 s, .int .i64 k, .int .i64 n] 23)).alloc (.cells #[.int .i64 m] 3)).alloc (.cells #[.int .i64 stop] 3)) #[.bool false] 4
    rw [World.size_alloc, World.size_alloc, World.size_alloc] at h
    exact h
theorem boxes2 (w : World) (u v : Value) (T1 T2 : TypeId) : ∃ wz, wz = (w.alloc (.cells #[u] T1)).alloc (.cells #[v] T2) ∧ Hid (Below w.heap.size w wz) ∧ Hid (Blk wz w.heap.size #[u] T1) ∧ Hid (Blk wz (w.heap.size + 1) #[v] T2) := by
  refine ⟨_, rfl, ((Below.refl _ w).alloc (Nat.le_refl _) _).alloc (by simp) _, (Blk.new w _ _).alloc _, ?_⟩
  have h := Blk.new (w.alloc (.cells #[u] T1)) #[v] T2
  rw [World.size_alloc] at h
  exact h

set_option maxRecDepth 100000 in
set_option maxHeartbeats 4000000 in
theorem stripeLayers_no (s k n m stop : Int) (w : World) (h : planB s k n = false ∨ (planB s k n = true ∧ 2000 < s)) :
    Calls Try.prog 6 #[.agg #[.int .i64 s, .int .i64 k, .int .i64 n], .int .i64 m, .int .i64 stop] w fun e w' => e = .returned (.bool true) ∧ Below w.heap.size w w' := by
  have HR := Lib.hid (right_any' s k n)
  have HAW := Lib.hid awake_any
  obtain ⟨wz, hwz, HBZ, HK3, HK4, HK5, HK6⟩ := boxes4 w s k n m stop
  have HWZ := Lib.hid hwz
  obtain ⟨p3, hp3⟩ : ∃ p3, p3 = w.heap.size := ⟨_, rfl⟩
  obtain ⟨p4, hp4⟩ : ∃ p4, p4 = w.heap.size + 1 := ⟨_, rfl⟩
  obtain ⟨p5, hp5⟩ : ∃ p5, p5 = w.heap.size + 1 + 1 := ⟨_, rfl⟩
  obtain ⟨p6, hp6⟩ : ∃ p6, p6 = w.heap.size + 1 + 1 + 1 := ⟨_, rfl⟩
  have HPS : Hid (p3 = w.heap.size ∧ p4 = w.heap.size + 1 ∧ p5 = w.heap.size + 1 + 1 ∧ p6 = w.heap.size + 1 + 1 + 1) := ⟨hp3, hp4, hp5, hp6⟩
  rw [← hp6] at HK6
  rw [← hp5] at HK5
  rw [← hp4] at HK4
  rw [← hp3] at HK3
  have c0 : wz.cell? ⟨p3, 0, none⟩ = some (.int .i64 s) := HK3.out.cell 0 rfl
  have c1 : wz.cell? ⟨p3, 1, none⟩ = some (.int .i64 k) := HK3.out.cell 1 rfl
  have c2 : wz.cell? ⟨p3, 2, none⟩ = some (.int .i64 n) := HK3.out.cell 2 rfl
  clear hwz hp3 hp4 hp5 hp6
  refine callsIn_wide.1 (callsIn_of_wp_marks (F := Fence.wide) (n := 9) Try.func6 rfl trivial ?_)
  rw [wpIn_wide]
  simp only [Try.ntmps6, List.size_toArray, List.length_cons, List.length_nil, Nat.reduceAdd, Nat.reduceSub, Array.replicate_succ, Array.replicate_zero, List.push_toArray, List.append_toArray, List.nil_append, List.cons_append]
  go_wp2_with fail
  rw [← HWZ.out, ← HPS.out.2.2.2, ← HPS.out.2.2.1, ← HPS.out.2.1, ← HPS.out.1]
  rcases h with h | ⟨h, h2⟩
  all_goals
    rw [h] at HR
    clear h
    refine (HR.out _).mono ?_
    rintro e w1 ⟨rfl, rfl⟩
    go_wp2_with fail
    refine (HAW.out _).mono ?_
    rintro e w10 ⟨rfl, hb10⟩
    have HK10 : Hid (Blk w10 p6 #[.bool false] 4) := HK6.out.below hb10
    have HB10 : Hid (Below w.heap.size w w10) := bmore HBZ.out hb10 HBZ.out.size
    have c6 : w10.cell? ⟨p6, 0, none⟩ = some (.bool false) := HK10.out.cell 0 rfl
    have f6 : w10.frozen? ⟨p6, 0, none⟩ = false := HK10.out.frozen 0
    clear hb10
    go_wp2
    have hc : (w10.setCell ⟨p6, 0, none⟩ (.bool true)).cell? ⟨p6, 0, none⟩ = some (.bool true) := World.cell?_setCell_same' _ _ _ (by rw [c6]; rfl)
    have hb : Below w.heap.size w (w10.setCell ⟨p6, 0, none⟩ (.bool true)) := HB10.out.setCell (p := ⟨p6, 0, none⟩) (by have := HPS.out; simp; omega) _
    refine ⟨.bool true, ?_, rfl, hb⟩
    simp [results, Try.f6, go_sem, hc]
set_option maxRecDepth 100000 in
set_option maxHeartbeats 4000000 in
theorem stripeLayers_yes (s k n : Nat) (m stop : Int) (w : World) (hp : PlanOk s k n) (hs : s ≤ 2000) :
    Calls Try.prog 6 #[.agg #[.int .i64 s, .int .i64 k, .int .i64 n], .int .i64 m, .int .i64 stop] w fun e w' => e = .returned (.bool true) ∧ Below w.heap.size w w' := by
  have HR := Lib.hid (right_any' s k n)
  rw [planB_nat.2 hp] at HR
  have HAW := Lib.hid awake_any
  have HPL := Lib.hid (fun w => plan_any s k n w hp)
  have HOF := Lib.hid of_any
  have HBL := Lib.hid (fun b w h => blocks_any b s k n w h hp)
  have HRL := Lib.hid (fun i hi w => reflayer_any i n w hi hp.2.2.2)
  have hz := nb_le hp.1 hp.2.1
  have HOK := Lib.hid hp
  have i0 : ¬ (2000 : Int) < (s : Int) := by omega
  clear hp
  obtain ⟨wz, hwz, HBZ, HK3, HK4, HK5, HK6⟩ := boxes4 w s k n m stop
  have HWZ := Lib.hid hwz
  obtain ⟨p3, hp3⟩ : ∃ p3, p3 = w.heap.size := ⟨_, rfl⟩
  obtain ⟨p4, hp4⟩ : ∃ p4, p4 = w.heap.size + 1 := ⟨_, rfl⟩
  obtain ⟨p5, hp5⟩ : ∃ p5, p5 = w.heap.size + 1 + 1 := ⟨_, rfl⟩
  obtain ⟨p6, hp6⟩ : ∃ p6, p6 = w.heap.size + 1 + 1 + 1 := ⟨_, rfl⟩
  have HPS : Hid (p3 = w.heap.size ∧ p4 = w.heap.size + 1 ∧ p5 = w.heap.size + 1 + 1 ∧ p6 = w.heap.size + 1 + 1 + 1) := ⟨hp3, hp4, hp5, hp6⟩
  rw [← hp6] at HK6
  rw [← hp5] at HK5
  rw [← hp4] at HK4
  rw [← hp3] at HK3
  have c0 : wz.cell? ⟨p3, 0, none⟩ = some (.int .i64 s) := HK3.out.cell 0 rfl
  have c1 : wz.cell? ⟨p3, 1, none⟩ = some (.int .i64 k) := HK3.out.cell 1 rfl
  have c2 : wz.cell? ⟨p3, 2, none⟩ = some (.int .i64 n) := HK3.out.cell 2 rfl
  clear hwz hp3 hp4 hp5 hp6
  refine callsIn_wide.1 (callsIn_of_wp_marks (F := Fence.wide) (n := 9) Try.func6 rfl trivial ?_)
  rw [wpIn_wide]
  simp only [Try.ntmps6, List.size_toArray, List.length_cons, List.length_nil, Nat.reduceAdd, Nat.reduceSub, Array.replicate_succ, Array.replicate_zero, List.push_toArray, List.append_toArray, List.nil_append, List.cons_append]
  go_wp2_with fail
  rw [← HWZ.out, ← HPS.out.2.2.2, ← HPS.out.2.2.1, ← HPS.out.2.1, ← HPS.out.1]
  refine (HR.out _).mono ?_
  rintro e w1 ⟨rfl, rfl⟩
  go_wp2_with fail
  refine (HPL.out _).mono ?_
  rintro e w3 ⟨b, rfl, hP, hb3⟩
  have HP := Lib.hid hP
  have HB3 := Lib.hid hb3
  clear hP hb3
  obtain ⟨w4, hw4, HB4, HK8, HK9⟩ := boxes2 w3 (.int .i64 (-1)) (.int .i64 0) 3 3
  have HW4 := Lib.hid hw4
  obtain ⟨p8, hp8⟩ : ∃ p8, p8 = w3.heap.size := ⟨_, rfl⟩
  obtain ⟨p9, hp9⟩ : ∃ p9, p9 = w3.heap.size + 1 := ⟨_, rfl⟩
  have HP8 : Hid (p8 = w3.heap.size ∧ p9 = w3.heap.size + 1) := ⟨hp8, hp9⟩
  rw [← hp9] at HK9
  rw [← hp8] at HK8
  have HB34 : Hid (Below wz.heap.size wz w4) := bmore HB3.out HB4.out HB3.out.size
  have d4 : w4.cell? ⟨p4, 0, none⟩ = some (.int .i64 m) := (HK4.out.below HB34.out).cell 0 rfl
  have d4' : w3.cell? ⟨p4, 0, none⟩ = some (.int .i64 m) := (HK4.out.below HB3.out).cell 0 rfl
  have e1 : p4 < w3.heap.size := (HK4.out.below HB3.out).lt
  have e2 : ¬ p4 = w3.heap.size := by omega
  have e3 : ¬ w3.heap.size = p4 := by omega
  clear hw4 hp8 hp9
  go_wp2_with fail
  rw [← HW4.out, ← HP8.out.2, ← HP8.out.1]
  refine (HOF.out b m w4).mono ?_
  rintro e w5 ⟨rfl, hw5⟩
  obtain ⟨w5', hw5', HB5, HKA, HKB⟩ := boxes2 w4 (.pointer (some ⟨b, 0, none⟩)) (.int .i64 m) 24 3
  obtain rfl : w5 = w5' := hw5.trans hw5'.symm
  obtain ⟨pA, hpA⟩ : ∃ pA, pA = w4.heap.size := ⟨_, rfl⟩
  obtain ⟨pB, hpB⟩ : ∃ pB, pB = w4.heap.size + 1 := ⟨_, rfl⟩
  have HPA : Hid (pA = w4.heap.size ∧ pB = w4.heap.size + 1) := ⟨hpA, hpB⟩
  rw [← hpB] at HKB ⊢
  rw [← hpA] at HKA ⊢
  have HQ5 : Hid (Below w3.heap.size w3 w5) := bmore HB4.out HB5.out HB4.out.size
  have HK8b : Hid (Blk w5 p8 #[.int .i64 (-1)] 3) := HK8.out.below HB5.out
  have HK9b : Hid (Blk w5 p9 #[.int .i64 0] 3) := HK9.out.below HB5.out
  have HP5 : Hid (PlanAt w5 b s k n) := HP.out.below HQ5.out
  have hs35 : w3.heap.size ≤ w5.heap.size := HQ5.out.size
  have HSTOPS : Hid (SeqStopsK Fence.wide (9 - 1) Try.prog 29 #[.pointer (some ⟨pA, 0, none⟩), .pointer (some ⟨pB, 0, none⟩)] (fun x : Blk0 (nb s k) => #[Value.int .i64 (x.1 : Int)]) (KeepC (fun q => q = p8 ∨ q = p9)) (fun ys => vals ys = preL n m (nb s k)) (fun pre => vals pre <+: preL n m (nb s k)) (preL n m (nb s k)).length w5) :=
    of_stops (9 - 1) (by omega) pA pB b s k n m _ HOK.out w5 (fun hk => by have := HP.out.lt; have := HP8.out; omega) (fun hk => by have := HPA.out; have := HP8.out; have := HK9.out.lt; omega) (fun hk => by have := HPA.out; have := HP8.out; have := HK9.out.lt; omega) HKA.out HKB.out HP5.out
  clear hw5 hw5' hpA hpB
  go_wp2_with fail
  refine (wpIn_wide (n := 9)).1 ?_
  refine' wpIn_rangeFunc_ownF (F := Fence.wide) (n := 9) rfl (by omega) (gf := 29) (lb := #[.pointer (some ⟨pA, 0, none⟩), .pointer (some ⟨pB, 0, none⟩)]) rfl trivial (enters_of Try.func29 (by kernel_rfl) rfl)
    HSTOPS.out (fun h k => h.trans k) keepC_b (Below.refl _ _) (fun _ => rfl)
    (fun pre W => Blk W p8 #[.int .i64 (lastI (vals pre))] 3 ∧ Blk W p9 #[.int .i64 (pre.length : Int)] 3 ∧ Below w3.heap.size w3 W ∧ vals pre <+: preL n m (nb s k))
    (fun c pre W => c = .ret ∧ (¬ vals pre <+: preL n m (nb s k) ∨ (Blk W p6 #[.bool true] 4 ∧ Below w.heap.size w W)))
    (fun s W W' row hs hg hr => ⟨ownFrom_blk (β := Unit) _ (fun _ => p8) (fun _ => _) _ () W W' row hs.1 hg hr, ownFrom_blk (β := Unit) _ (fun _ => p9) (fun _ => _) _ () W W' row hs.2.1 hg hr, ownFrom_below (Nat.le_refl _) hs35 () W W' row hs.2.2.1 hg hr, hs.2.2.2⟩)
    (fun c s W W' row hs hg hr => ⟨hs.1, hs.2.imp id (fun h => ⟨ownFrom_blk (β := Unit) _ (fun _ => p6) (fun _ => _) _ () W W' row h.1 hg hr, ownFrom_below (Nat.le_refl _) (Nat.le_trans HBZ.out.size (Nat.le_trans HB3.out.size hs35)) () W W' row h.2 hg hr⟩)⟩)
    ⟨HK8b.out, HK9b.out, HQ5.out, List.nil_prefix⟩
    _ ?assign ?body ?done ?stop
  case assign =>
    intro l x W K hK
    gi_wp2
    exact hK
  case body =>
    rintro l pre ⟨x, hx⟩ W ⟨hk8, hk9, hbw, hpre⟩ hN
    dsimp only
    obtain ⟨y, hy0, hy1, hy2, hy3, hy4, hy5⟩ := next_lyr hpre (by rw [vals_len]; exact hN)
    have HY1 := Lib.hid hy1
    have HY2 := Lib.hid hy2
    have HY4 := Lib.hid hy4
    have HY5 := Lib.hid hy5
    have hkl : (pre.length : Int) ≤ 16384 := by have := preL_len n m (nb s k); omega
    obtain ⟨kn, hkn⟩ : ∃ kn : Int, kn = (pre.length : Int) := ⟨_, rfl⟩
    have HKN := Lib.hid hkn
    have hkn0 : 0 ≤ kn := by omega
    rw [← hkn] at hk9 hkl
    obtain ⟨a, ha⟩ : ∃ a : Int, a = lastI (vals pre) := ⟨_, rfl⟩
    have HA := Lib.hid ha
    have ha1 : -1 ≤ a := by rw [ha]; exact lastI_ge _
    rw [← ha] at hk8 hy3 HY4
    have hya : a < 16384 := by omega
    have HI8 := Lib.hid hk8
    have HI9 := Lib.hid hk9
    have HBW := Lib.hid hbw
    have c8 : W.cell? ⟨p8, 0, none⟩ = some (.int .i64 a) := hk8.cell 0 rfl
    clear hy1 hy2 hy4 hy5 hkn ha hk8 hk9 hbw hpre hN
    gi_wp2
    gi_loopw [11] (fun ii wr => ∃ i : Nat, ii = .int .i64 i ∧ a < (i : Int) ∧ (i ≤ x ∨ (i : Int) = a + 1) ∧ Hid (∀ j : Nat, a < j → j < i → (lyr n j : Int) ≠ m) ∧ Hid (Blk wr p8 #[.int .i64 a] 3) ∧ Hid (Blk wr p9 #[.int .i64 kn] 3) ∧ Hid (Below w3.heap.size w3 wr) ∧ Hid (KeepsOthers W wr) ∧ Hid (KeepC (fun q => q = p8 ∨ q = p9) W wr)) (fun ii _ => x - (intOf ii).toNat)
    case atStart => exact ⟨(a + 1).toNat, by go_num, by omega, .inr (by omega), fun j h1 h2 => by omega, HI8, HI9, HBW, KeepsOthers.refl _, KeepC.refl _ _⟩
    case round =>
      obtain ⟨i, rfl, hi1, hi2, HN, HR8, HR9, HBR, HKO, HKC⟩ := hrel
      obtain ⟨wb, rfl⟩ : ∃ wb : World, wb = wr := ⟨_, rfl⟩
      have HL3 : Hid (Below wz.heap.size wz wb) := bmore HB3.out HBR.out HB3.out.size
      have d8 : wb.cell? ⟨p8, 0, none⟩ = some (.int .i64 a) := HR8.out.cell 0 rfl
      have f8 : wb.frozen? ⟨p8, 0, none⟩ = false := HR8.out.frozen 0
      have d9 : wb.cell? ⟨p9, 0, none⟩ = some (.int .i64 kn) := HR9.out.cell 0 rfl
      have f9 : wb.frozen? ⟨p9, 0, none⟩ = false := HR9.out.frozen 0
      have d3 : wb.cell? ⟨p3, 2, none⟩ = some (.int .i64 n) := (HK3.out.below HL3.out).cell 2 rfl
      have d4b : wb.cell? ⟨p4, 0, none⟩ = some (.int .i64 m) := (HK4.out.below HL3.out).cell 0 rfl
      have d5 : wb.cell? ⟨p5, 0, none⟩ = some (.int .i64 stop) := (HK5.out.below HL3.out).cell 0 rfl
      have d6 : wb.cell? ⟨p6, 0, none⟩ = some (.bool false) := (HK6.out.below HL3.out).cell 0 rfl
      have f6 : wb.frozen? ⟨p6, 0, none⟩ = false := (HK6.out.below HL3.out).frozen 0
      by_cases hix : i < x
      · have HLY := Lib.hid (HRL.out i (by omega))
        obtain ⟨v, hv⟩ : ∃ v : Int, v = (lyr n i : Int) := ⟨_, rfl⟩
        have HVV := Lib.hid hv
        rw [← hv] at HLY
        clear hv
        by_cases hl : v = m
        · have t1 : (v == m) = true := by simp [hl]
          have HNP : Hid (¬ vals (pre ++ [⟨x, hx⟩]) <+: preL n m (nb s k)) := fun h => by
            rw [vals_snoc] at h
            have hxy := HY5.out x h
            exact HY4.out i hi1 (by omega) (by rw [← HVV.out]; exact hl)
          have HSO : Hid (KeepsOthers W (wb.setCell ⟨p6, 0, none⟩ (.bool false))) := HKO.out.trans (KeepsOthers.setCell _ _ _)
          clear hl
          gi_wp2
          refine' meetIn ?first ?rest
          case first =>
            intro K' hK
            have mixed := mixed_ok
            have hf18 : Fence.wide.fn 18 := trivial
            gi_region_with_o (first | (gi_at_call 18; refine (CallsIn.inRound l (callsIn_wide.2 (HLY.out _))).mono ?_; rintro e w' ⟨rfl, rfl⟩) | (refine ⟨trivial, ?_⟩; gi_at_call 18; refine (CallsIn.inRound l (callsIn_wide.2 (HLY.out _))).mono ?_; rintro e w' ⟨rfl, rfl⟩))
            all_goals exact hK
          case rest =>
            gi_wp2
            exact ⟨⟨HSO.out.size, HSO.out.same⟩, rfl, .inl HNP.out⟩
        · have t1 : (v == m) = false := by simpa using hl
          have HN2 : Hid (∀ j : Nat, a < j → j < i + 1 → (lyr n j : Int) ≠ m) := fun j h1 h2 => by
            by_cases hji : j = i
            · subst hji; rw [← HVV.out]; exact hl
            · exact HN.out j h1 (by omega)
          have HS8 : Hid (Blk wb.drew p8 #[.int .i64 a] 3) := HR8.out.drew
          have HS9 : Hid (Blk wb.drew p9 #[.int .i64 kn] 3) := HR9.out.drew
          have HSB : Hid (Below w3.heap.size w3 wb.drew) := below_drewN HBR.out 1
          have HSO : Hid (KeepsOthers W wb.drew) := ⟨HKO.out.size, HKO.out.same⟩
          have HSC : Hid (KeepC (fun q => q = p8 ∨ q = p9) W wb.drew) := HKC.out
          clear hl
          gi_wp2
          refine' meetIn ?first ?rest
          case first =>
            intro K' hK
            have mixed := mixed_ok
            have hf18 : Fence.wide.fn 18 := trivial
            gi_region_with_o (first | (gi_at_call 18; refine (CallsIn.inRound l (callsIn_wide.2 (HLY.out _))).mono ?_; rintro e w' ⟨rfl, rfl⟩) | (refine ⟨trivial, ?_⟩; gi_at_call 18; refine (CallsIn.inRound l (callsIn_wide.2 (HLY.out _))).mono ?_; rintro e w' ⟨rfl, rfl⟩))
            all_goals exact hK
          case rest =>
            gi_wp2
            go_roundw
            case rel => exact ⟨i + 1, by go_num, by omega, .inl (by omega), HN2, HS8, HS9, HSB, HSO, HSC⟩
            case measure => simp [intOf]; omega
      · by_cases hxa : (x : Int) ≤ a
        · have HNP : Hid (¬ vals (pre ++ [⟨x, hx⟩]) <+: preL n m (nb s k)) := fun h => by
            rw [vals_snoc] at h
            have hxy := HY5.out x h
            omega
          have HSO : Hid (KeepsOthers W (wb.setCell ⟨p6, 0, none⟩ (.bool false))) := HKO.out.trans (KeepsOthers.setCell _ _ _)
          have HLY := Lib.hid (HRL.out x (by omega))
          gi_wp2
          refine' meetIn ?first ?rest
          case first =>
            intro K' hK
            have mixed := mixed_ok
            have hf18 : Fence.wide.fn 18 := trivial
            gi_region_with_o (first | (gi_at_call 18; refine (CallsIn.inRound l (callsIn_wide.2 (HLY.out _))).mono ?_; rintro e w' ⟨rfl, rfl⟩) | (refine ⟨trivial, ?_⟩; gi_at_call 18; refine (CallsIn.inRound l (callsIn_wide.2 (HLY.out _))).mono ?_; rintro e w' ⟨rfl, rfl⟩))
            all_goals exact hK
          case rest =>
            gi_wp2
            exact ⟨⟨HSO.out.size, HSO.out.same⟩, rfl, .inl HNP.out⟩
        · have hixe : i = x := by omega
          have HNX : Hid (∀ j : Nat, a < j → j < x → (lyr n j : Int) ≠ m) := fun j h1 h2 => HN.out j h1 (by omega)
          have HLY := Lib.hid (HRL.out x (by omega))
          obtain ⟨v, hv⟩ : ∃ v : Int, v = (lyr n x : Int) := ⟨_, rfl⟩
          have HVV := Lib.hid hv
          rw [← hv] at HLY
          clear hv
          have t0 : decide ((x : Int) ≤ a) = false := decide_eq_false hxa
          by_cases hl : v = m
          · have t1 : (v == m) = true := by simp [hl]
            have t2 : (v != m) = false := by simp [hl]
            have hxy : x = y := by
              rcases Nat.lt_trichotomy x y with h | h | h
              · exact absurd (by rw [← HVV.out]; exact hl) (HY4.out x (by omega) h)
              · exact h
              · exact absurd HY2.out (HNX.out y hy3 h)
            have HPX : Hid (vals (pre ++ [⟨x, hx⟩]) <+: preL n m (nb s k)) := by
              have h := HY1.out
              rw [← hxy] at h
              show _ <+: _
              rw [vals_snoc]; exact h
            have HLX : Hid (((pre ++ [(⟨x, hx⟩ : Blk0 (nb s k))]).length : Int) = kn + 1) := by show _ = _; rw [HKN.out]; simp
            have q1 := HP8.out
            have q2 := (HK5.out.below HB3.out).lt
            have e4 : ¬ p9 = p8 := by omega
            have e5 : ¬ p8 = p9 := by omega
            have e6 : ¬ p5 = p8 := by omega
            have e7 : ¬ p8 = p5 := by omega
            have e8 : ¬ p5 = p9 := by omega
            have e9 : ¬ p9 = p5 := by omega
            have HS8 : Hid (Blk ((wb.setCell ⟨p8, 0, none⟩ (.int .i64 x)).setCell ⟨p9, 0, none⟩ (.int .i64 (kn + 1))).drew p8 #[.int .i64 x] 3) := ((HR8.out.set' (by simp)).setOther (p := ⟨p9, 0, none⟩) e5 _).drew
            have HS9 : Hid (Blk ((wb.setCell ⟨p8, 0, none⟩ (.int .i64 x)).setCell ⟨p9, 0, none⟩ (.int .i64 (kn + 1))).drew p9 #[.int .i64 (kn + 1)] 3) := ((HR9.out.setOther (p := ⟨p8, 0, none⟩) e4 _).set' (by simp)).drew
            have HSB : Hid (Below w3.heap.size w3 ((wb.setCell ⟨p8, 0, none⟩ (.int .i64 x)).setCell ⟨p9, 0, none⟩ (.int .i64 (kn + 1))).drew) := below_drewN ((HBR.out.setCell (p := ⟨p8, 0, none⟩) (by simp; omega) _).setCell (p := ⟨p9, 0, none⟩) (by simp; omega) _) 1
            have hko : KeepsOthers W ((wb.setCell ⟨p8, 0, none⟩ (.int .i64 x)).setCell ⟨p9, 0, none⟩ (.int .i64 (kn + 1))) := (HKO.out.trans (KeepsOthers.setCell _ _ _)).trans (KeepsOthers.setCell _ _ _)
            have HSO : Hid (KeepsOthers W ((wb.setCell ⟨p8, 0, none⟩ (.int .i64 x)).setCell ⟨p9, 0, none⟩ (.int .i64 (kn + 1))).drew) := ⟨hko.size, hko.same⟩
            have hkc : KeepC (fun q => q = p8 ∨ q = p9) W ((wb.setCell ⟨p8, 0, none⟩ (.int .i64 x)).setCell ⟨p9, 0, none⟩ (.int .i64 (kn + 1))) := (HKC.out.setCell (p := ⟨p8, 0, none⟩) (.inl rfl) _).setCell (p := ⟨p9, 0, none⟩) (.inr rfl) _
            have HSC : Hid (KeepC (fun q => q = p8 ∨ q = p9) W ((wb.setCell ⟨p8, 0, none⟩ (.int .i64 x)).setCell ⟨p9, 0, none⟩ (.int .i64 (kn + 1))).drew) := hkc
            have HSK6 : Hid (Blk ((wb.setCell ⟨p8, 0, none⟩ (.int .i64 x)).setCell ⟨p9, 0, none⟩ (.int .i64 (kn + 1))).drew p6 #[.bool false] 4) := ((((HK6.out.below HL3.out).setOther (p := ⟨p8, 0, none⟩) (by have := (HK6.out.below HB3.out).lt; simp; omega) _).setOther (p := ⟨p9, 0, none⟩) (by have := (HK6.out.below HB3.out).lt; simp; omega) _)).drew
            clear hl hxy q1 q2 hko hkc hixe
            gi_wp2
            refine' meetIn ?first ?rest
            case first =>
              intro K' hK
              have mixed := mixed_ok
              have hf18 : Fence.wide.fn 18 := trivial
              gi_region_with_o (first | (gi_at_call 18; refine (CallsIn.inRound l (callsIn_wide.2 (HLY.out _))).mono ?_; rintro e w' ⟨rfl, rfl⟩) | (refine ⟨trivial, ?_⟩; gi_at_call 18; refine (CallsIn.inRound l (callsIn_wide.2 (HLY.out _))).mono ?_; rintro e w' ⟨rfl, rfl⟩))
              all_goals exact hK
            case rest =>
              by_cases hks : kn + 1 = stop
              · have i10 : (kn + 1 == stop) = true := by simp [hks]
                clear hks
                gi_wp2
                refine ⟨trivial, ?_⟩
                refine (CallsIn.inRound l (callsIn_wide.2 (HAW.out _))).mono ?_
                rintro e w10 ⟨rfl, hb10⟩
                have HK10 : Hid (Blk w10 p6 #[.bool false] 4) := HSK6.out.below hb10
                have g6 : w10.cell? ⟨p6, 0, none⟩ = some (.bool false) := HK10.out.cell 0 rfl
                have h6 : w10.frozen? ⟨p6, 0, none⟩ = false := HK10.out.frozen 0
                have HO10 : Hid (KeepsOthers W (w10.setCell ⟨p6, 0, none⟩ (.bool true))) := (keepsOthers_below HSO.out hb10).trans (KeepsOthers.setCell _ _ _)
                have HF10 : Hid (Blk (w10.setCell ⟨p6, 0, none⟩ (.bool true)) p6 #[.bool true] 4) := HK10.out.set' (by simp)
                have HB10 : Hid (Below w.heap.size w (w10.setCell ⟨p6, 0, none⟩ (.bool true))) := (bmore (bmore HBZ.out (bmore HB3.out (bmore HSB.out hb10 HSB.out.size) HB3.out.size) HBZ.out.size) (Below.refl _ _) (Nat.le_trans HBZ.out.size (Nat.le_trans HB3.out.size (Nat.le_trans HSB.out.size hb10.size)))).setCell (p := ⟨p6, 0, none⟩) (by have := HPS.out; simp; omega) _
                clear hb10
                gi_wp2
                exact ⟨HO10.out, rfl, .inr ⟨HF10.out, HB10.out⟩⟩
              · have i10 : (kn + 1 == stop) = false := by simpa using hks
                gi_wp2
                exact ⟨HSO.out, HSC.out, by rw [vals_snoc, lastI_snoc]; exact HS8.out, by rw [HLX.out]; exact HS9.out, HSB.out, HPX.out⟩
          · have t1 : (v == m) = false := by simpa using hl
            have t2 : (v != m) = true := by simpa using hl
            have HNP : Hid (¬ vals (pre ++ [⟨x, hx⟩]) <+: preL n m (nb s k)) := fun h => by
              rw [vals_snoc] at h
              have hxy := HY5.out x h
              exact hl (by rw [HVV.out, hxy]; exact HY2.out)
            have HSO : Hid (KeepsOthers W (wb.setCell ⟨p6, 0, none⟩ (.bool false))) := HKO.out.trans (KeepsOthers.setCell _ _ _)
            clear hl hixe
            gi_wp2
            refine' meetIn ?first ?rest
            case first =>
              intro K' hK
              have mixed := mixed_ok
              have hf18 : Fence.wide.fn 18 := trivial
              gi_region_with_o (first | (gi_at_call 18; refine (CallsIn.inRound l (callsIn_wide.2 (HLY.out _))).mono ?_; rintro e w' ⟨rfl, rfl⟩) | (refine ⟨trivial, ?_⟩; gi_at_call 18; refine (CallsIn.inRound l (callsIn_wide.2 (HLY.out _))).mono ?_; rintro e w' ⟨rfl, rfl⟩))
              all_goals exact hK
            case rest =>
              gi_wp2
              exact ⟨⟨HSO.out.size, HSO.out.same⟩, rfl, .inl HNP.out⟩
  case done =>
    rintro D ys W hD hys ⟨hk8, hk9, hbw, hpre⟩ hK
    obtain ⟨a, ha⟩ : ∃ a : Int, a = lastI (vals ys) := ⟨_, rfl⟩
    have ha1 : -1 ≤ a := by rw [ha]; exact lastI_ge _
    have ha2 : a ≤ 16384 := by
      rw [ha, hys]
      rcases List.eq_nil_or_concat (preL n m (nb s k)) with h | ⟨q, y, h⟩
      · rw [h]; show (-1 : Int) ≤ 16384; omega
      · have hm : y ∈ preL n m (nb s k) := by rw [h]; simp
        have := (mem_preL.1 hm).1
        rw [h, List.concat_eq_append, lastI_snoc]; omega
    have HNB : Hid (∀ j : Nat, a < j → j < nb s k → (lyr n j : Int) ≠ m) := fun j h1 h2 => none_behind (by rw [← hys, ← ha]; exact h1) h2
    rw [← ha] at hk8
    have HI8 := Lib.hid hk8
    have HBW := Lib.hid hbw
    have HKD := Lib.hid hK
    have hDW := (Array.getElem?_eq_some_iff.1 hK).1
    have d8 : W.cell? ⟨p8, 0, none⟩ = some (.int .i64 a) := hk8.cell 0 rfl
    obtain ⟨z, hzz⟩ : ∃ z, z = nb s k := ⟨_, rfl⟩
    have HZ := Lib.hid hzz
    rw [← hzz] at hz
    clear hys hk8 hk9 hbw hpre hK ha hzz
    go_wp2_with fail
    go_loopw [12] (fun ii wr => ∃ i : Nat, ii = .int .i64 i ∧ a < (i : Int) ∧ Hid (Below W.heap.size W wr)) (fun ii _ => z - (intOf ii).toNat)
    case atStart => exact ⟨(a + 1).toNat, by go_num, by omega, Below.refl _ _⟩
    case round =>
      obtain ⟨i, rfl, hi1, HB⟩ := hrel
      obtain ⟨wb, rfl⟩ : ∃ wb : World, wb = wr := ⟨_, rfl⟩
      have HBR : Hid (Below w3.heap.size w3 wb) := bmore HBW.out HB.out HBW.out.size
      have HBK := Lib.hid (HBL.out b wb (HP.out.below HBR.out))
      rw [← HZ.out] at HBK
      by_cases hiz : i < z
      · go_wp2_with fail
        refine HBK.out.mono ?_
        rintro e w7 ⟨rfl, hb7⟩
        have HB7 : Hid (Below W.heap.size W w7) := bmore HB.out hb7 HB.out.size
        have HL7 : Hid (Below wz.heap.size wz w7) := bmore HB3.out (bmore HBR.out hb7 HBR.out.size) HB3.out.size
        have d3 : w7.cell? ⟨p3, 2, none⟩ = some (.int .i64 n) := (HK3.out.below HL7.out).cell 2 rfl
        have d4b : w7.cell? ⟨p4, 0, none⟩ = some (.int .i64 m) := (HK4.out.below HL7.out).cell 0 rfl
        obtain ⟨v, hv⟩ : ∃ v : Int, v = (lyr n i : Int) := ⟨_, rfl⟩
        have hvm : v ≠ m := by rw [hv]; exact HNB.out i hi1 (by have := HZ.out; omega)
        have HLY := Lib.hid (fun w => (HRL.out i (by omega) w).mono (fun e w' (h : e = _ ∧ w = w') => (⟨h.1, h.2.symm⟩ : e = .returned (.int .i64 (lyr n i)) ∧ w' = w)))
        rw [← hv] at HLY
        have t1 : (v == m) = false := by simpa using hvm
        clear hb7 hv hvm
        go_wp2_with fail
        go_quiet ((go_at_call 18; exact Calls.quiet_of_same (HLY.out _)))
        have HB8 : Hid (Below W.heap.size W (w7.drewN nq)) := below_drewN HB7.out nq
        go_wp2
        go_roundw
        case rel => exact ⟨i + 1, by go_num, by omega, HB8⟩
        case measure => simp [intOf]; omega
      · go_wp2_with fail
        refine HBK.out.mono ?_
        rintro e w7 ⟨rfl, hb7⟩
        have HB7 : Hid (Below W.heap.size W w7) := bmore HB.out hb7 HB.out.size
        clear hb7
        go_wp2_with fail
        refine (HAW.out _).mono ?_
        rintro e w10 ⟨rfl, hb10⟩
        have HB10 : Hid (Below W.heap.size W w10) := bmore HB7.out hb10 HB7.out.size
        have HB310 : Hid (Below w3.heap.size w3 w10) := bmore HBW.out HB10.out HBW.out.size
        have HK10 : Hid (Blk w10 p6 #[.bool false] 4) := (HK6.out.below HB3.out).below HB310.out
        have g6 : w10.cell? ⟨p6, 0, none⟩ = some (.bool false) := HK10.out.cell 0 rfl
        have h6 : w10.frozen? ⟨p6, 0, none⟩ = false := HK10.out.frozen 0
        have hp63 := (HK6.out.below HB3.out).lt
        have HD10 : Hid ((w10.setCell ⟨p6, 0, none⟩ (.bool true)).heap[D]? = some (.deferred (some []))) := (Below.heap_setCell _ _ _ _ (by simp; omega)).trans ((HB10.out.block D hDW).trans HKD.out)
        have HF10 : Hid ((w10.setCell ⟨p6, 0, none⟩ (.bool true)).cell? ⟨p6, 0, none⟩ = some (.bool true)) := World.cell?_setCell_same' _ _ _ (by rw [g6]; rfl)
        have HBF : Hid (Below w.heap.size w (w10.setCell ⟨p6, 0, none⟩ (.bool true))) := (bmore HBZ.out (bmore HB3.out HB310.out HB3.out.size) HBZ.out.size).setCell (p := ⟨p6, 0, none⟩) (by have := HPS.out; simp; omega) _
        have hwD : w.heap.size ≤ D := Nat.le_trans HBZ.out.size (Nat.le_trans HB3.out.size (by omega))
        clear hb10
        go_wp2
        refine ⟨by simp, .inl ⟨_, _, rfl, run_takeDeferred HD10.out, ?_⟩⟩
        have hc := cell_kept HF10.out (grownBy_putObj' _ D (.deferred none)) (fun r e => by cases e; exact ⟨_, HD10.out, rfl⟩)
        refine ⟨.bool true, ?_, rfl, HBF.out.trans (belowK_b (w := w) (Nat.le_refl _) _ D _ _ hwD HD10.out rfl rfl)⟩
        simp [results, Try.f6, go_sem, hc]
  case stop =>
    rintro D c pre W hD hSp ⟨rfl, hx | ⟨hk6, hbw⟩⟩ hK
    · exact absurd hSp hx
    · rw [wpIn_wide]
      have hwD : w.heap.size ≤ D := Nat.le_trans HBZ.out.size (Nat.le_trans HB3.out.size (by omega))
      have hc0 : W.cell? ⟨p6, 0, none⟩ = some (.bool true) := hk6.cell 0 rfl
      have HC0 := Lib.hid hc0
      have HBF := Lib.hid hbw
      have HKD := Lib.hid hK
      clear hk6 hbw hK hc0
      go_wp2
      refine ⟨by simp, .inl ⟨_, _, rfl, run_takeDeferred HKD.out, ?_⟩⟩
      have hc := cell_kept HC0.out (grownBy_putObj' _ D (.deferred none)) (fun r e => by cases e; exact ⟨_, HKD.out, rfl⟩)
      refine ⟨.bool true, ?_, rfl, HBF.out.trans (belowK_b (w := w) (Nat.le_refl _) _ D _ _ hwD HKD.out rfl rfl)⟩
      simp [results, Try.f6, go_sem, hc]
theorem stripeLayers_any (s k n m stop : Int) (w : World) :
    Calls Try.prog 6 #[.agg #[.int .i64 s, .int .i64 k, .int .i64 n], .int .i64 m, .int .i64 stop] w fun e w' => e = .returned (.bool true) ∧ Below w.heap.size w w' := by
  cases h : planB s k n with
  | false => exact stripeLayers_no s k n m stop w (.inl h)
  | true =>
    by_cases h2 : 2000 < s
    · exact stripeLayers_no s k n m stop w (.inr ⟨h, h2⟩)
    · obtain ⟨s', k', n', rfl, rfl, rfl, hp⟩ := planB_ok h
      exact stripeLayers_yes s' k' n' m stop w hp (by omega)
end Go.Proofs.Ytoofhjhnfeamgaa
