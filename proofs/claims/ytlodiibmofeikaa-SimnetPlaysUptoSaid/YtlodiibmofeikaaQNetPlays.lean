/- simnet: the law SimnetPlays. -/
import Derived.Test.YtlodiibmofeikaaQNetPlaysB
import Derived.Test.YtlodiibmofeikaaQNetStepAny
import Derived.Test.YtlodiibmofeikaaQNetAw
import Derived.Test.YtlodiibmofeikaaQNetRight
namespace Go.Proofs.Ytlodiibmofeikaa
open Go.RowKit Go.Shelf
set_option linter.unusedVariables false
set_option linter.unusedSimpArgs false
theorem rowN (w : World) (n : Nat) (hn : n ≤ 100) : (w.alloc (.cells (List.replicate (n + 1) (Value.slice none 0 0)).toArray 92)).ownsRow 0 92 1 (.slice (some ⟨w.heap.size, 0, none⟩) (n + 1) (n + 1)) (n + 1) (List.replicate (n + 1) (.slice none 0 0)) :=
  World.ownsRow_lit (base := 0) (e := 92) (size := 1) w (List.replicate (n + 1) (Value.slice none 0 0)).toArray (n + 1) (Nat.zero_le _) (by unfold maxLen; omega) (by simp)
set_option maxRecDepth 100000 in
set_option maxHeartbeats 4000000 in
theorem simnetPlays_yes (n : Nat) (delay room j lv : Int) (fA : Option Addr) (fc : Nat) (F : List FD) (A : Option Addr) (k0 : Nat) (ops : List OpN) (w : World) (hx : OpsOk w (.slice A ops.length k0) ops) (hF : Reads w 2 (Value.slice fA F.length fc) F.length (F.flatMap fateCells)) (hc : CfgOk n delay room j lv) (hl : lightB ops F.length n = true) :
    Calls Try.prog 5 #[.agg (casC n delay room j lv (Value.slice fA F.length fc) (.slice A ops.length k0))] w fun e w' => e = .returned (.bool true) ∧ Below w.heap.size w w' := by
  have hlb : lightN ops ≤ 70 ∧ F.length ≤ 200 ∧ n ≤ 8 := by
    simp [lightB] at hl
    omega
  have hon := len_lightN ops
  have HX := Lib.hid hx
  have HRT := Lib.hid (fun W => right_yes n delay room j lv W hc)
  have hlg := fun W (hW : OpsOk W (.slice A ops.length k0) ops) => light_any n delay room j lv fA F.length fc (.slice A ops.length k0) ops W hW
  rw [hl] at hlg
  have HLG := Lib.hid hlg
  have HFR := Lib.hid hF
  have HCFG := Lib.hid hc
  have hrc := hc.rc
  have HCF : Hid (Cf n delay room j lv) := ⟨by omega, hc.delay, hc.room, hc.j, hc.lv⟩
  have HFL : Hid (F.length ≤ 200) := hlb.2.1
  have hn8 : n ≤ 8 := hlb.2.2
  have hn1 : 1 ≤ n := by omega
  obtain ⟨N, hnl⟩ : ∃ N, N = ops.length := ⟨_, rfl⟩
  have HNL := Lib.hid hnl
  have HKN : Hid (N ≤ 70) := by show _ ≤ _; omega
  rw [← hnl] at HLG ⊢
  have HC0' := Lib.hid (Blk.new w #[.int .i64 (n : Int), .int .i64 delay, .int .i64 room, .int .i64 j, .int .i64 lv, .slice fA F.length fc, .slice A N k0] 53)
  have HB1 := Lib.hid ((Below.refl _ w).alloc (Nat.le_refl _) (.cells #[.int .i64 (n : Int), .int .i64 delay, .int .i64 room, .int .i64 j, .int .i64 lv, .slice fA F.length fc, .slice A N k0] 53))
  unfold casC at *
  obtain ⟨x0, x1, x2, x3, x4, x5, x6⟩ := blk7' HC0'.out
  have HMK : Hid (∀ W, (Instr.makeSlice 55 (.int .i64 ((n : Int) + 1)) (.int .i64 ((n : Int) + 1))).run Try.prog W = .ok (.slice (some ⟨W.heap.size, 0, none⟩) (n + 1) (n + 1)) (W.alloc (.cells (List.replicate (n + 1) (Value.slice none 0 0)).toArray 92))) := fun W => by
    have h := make_lists (n + 1) (by omega) W
    push_cast at h
    exact h
  clear hx hF hc hl hlb hon hrc hnl hlg
  go_enter Try.func5, Try.ntmps5
  go_wp2_with fail
  generalize w.alloc (.cells #[.int .i64 (n : Int), .int .i64 delay, .int .i64 room, .int .i64 j, .int .i64 lv, .slice fA F.length fc, .slice A N k0] 53) = w1 at *
  refine (HRT.out _).mono ?_
  rintro e w2 ⟨rfl, hb2⟩
  have HB2 := Lib.hid (bmore HB1.out hb2 HB1.out.size)
  have HC2 := Lib.hid (HC0'.out.below hb2)
  clear hb2 x0 x1 x2 x3 x4 x5 x6
  obtain ⟨x0, x1, x2, x3, x4, x5, x6⟩ := blk7' HC2.out
  go_wp2_with fail
  refine (HLG.out _ (by have h := HX.out.below HB2.out; rw [← HNL.out] at h; exact h)).mono ?_
  rintro e w3 ⟨rfl, hb3⟩
  have HB3 := Lib.hid (bmore HB2.out hb3 HB2.out.size)
  have HC3 := Lib.hid (HC2.out.below hb3)
  clear hb3 x0 x1 x2 x3 x4 x5 x6
  obtain ⟨x0, x1, x2, x3, x4, x5, x6⟩ := blk7' HC3.out
  go_wp2_with fail
  refine (netNew_ok n delay room j lv fA fc F w3 HCFG.out (HFR.out.below HB3.out) (by have := HFL.out; omega)).mono ?_
  rintro e w4 ⟨nb, rfl, ⟨col, gb, gg, pv, P, fv, hnt, hpl, hnp, hco⟩, hb4⟩
  have HNT := Lib.hid hnt
  have HPL := Lib.hid hpl
  have HNP := Lib.hid hnp
  have HB4 := Lib.hid (bmore HB3.out hb4 HB3.out.size)
  have HC4 : Hid (Blk w4.drew w.heap.size #[.int .i64 (n : Int), .int .i64 delay, .int .i64 room, .int .i64 j, .int .i64 lv, .slice fA F.length fc, .slice A N k0] 53) := (HC3.out.below hb4).drew
  have HF4 : Hid (Reads w4 2 (Value.slice fA F.length fc) F.length (F.flatMap fateCells)) := HFR.out.below HB4.out
  have HFB : Hid (∀ g, (Value.slice fA F.length fc).ownBlock = some g → 0 < F.length → g < w.heap.size) := fun g hg hp => HFR.out.lt g hg hp
  have HC0 : Hid (∀ g, g < w.heap.size → col g = 0) := fun g hg => by
    rcases Nat.eq_zero_or_pos (col g) with e | e
    · exact e
    · have h1 := hco g (by omega); have h2 := HB3.out.size; omega
  have HCO : Hid (∀ q, col q ≠ 0 → w.heap.size ≤ q) := fun q hq => by have h1 := hco q hq; have h2 := HB3.out.size; omega
  have HTOP : Hid (∀ q, w4.heap.size ≤ q → col q = 0) := hnt.top
  have HNB : Hid (w.heap.size ≤ nb) := by have h1 := hco nb (by rw [hnt.c1]; decide); have h2 := HB3.out.size; show _ ≤ _; omega
  clear hnt hpl hnp hco hb4 x0 x1 x2 x3 x4 x5 x6
  obtain ⟨x0, x1, x2, x3, x4, x5, x6⟩ := blk7' (show Blk w4 w.heap.size _ _ from HC4.out)
  go_wp2_with fail
  clear x0 x1 x2 x3 x4 x5 x6
  have hmk := HMK.out
  have hwr : IntKind.i64.wrap ((n : Int) + 1) = (n : Int) + 1 := IntWalk.i64_in _ (by omega)
  refine wp_region_heldT (S := (fun W' => Keep (fun _ => False) w4.drew W')) 11 (by kernel_rfl) (Keep.refl _ _) (fun hHeld => ?_)
  refine heldT_free (i := 0) (oi := { dst := some 34, op := Op.fieldAddr 53 (Operand.tmp 1) 0, type := 0, pos := "law.go:165", after := #[], guard := none }) (v := ?_) rfl (by kernel_rfl) (by kernel_rfl) (by kernel_rfl) (by kernel_rfl) (fun _ _ _ h => h) (Or.inl ⟨by rfl, ?_⟩) hHeld ?_
  rotate_left 1
  · intro wS; go_simp <;> with_reducible rfl
  (try simp only [Act.put, List.setIfInBounds_toArray, List.set_cons_zero, List.set_cons_succ])
  refine heldT_takeC [9] (i := 1) (oi := { dst := some 35, op := Op.load 30 (Operand.tmp 34), type := 30, pos := "law.go:165", after := #[{ on := 0, ground := Ground.data }], guard := none }) (v := ?_) rfl (by kernel_rfl) (by kernel_rfl) (by kernel_rfl) (by kernel_rfl) (fun _ _ _ h => h) (Or.inl ⟨by rfl, ?_⟩) hHeld ?_
  rotate_left 1
  · intro wS hSw; have hq := HC4.out.keep hSw (fun h => h); obtain ⟨q0, q1, q2, q3, q4, q5, q6⟩ := blk7' hq; clear hq hSw; go_simp <;> with_reducible rfl
  (try simp only [Act.put, List.setIfInBounds_toArray, List.set_cons_zero, List.set_cons_succ])
  refine heldT_free (i := 2) (oi := { dst := some 36, op := Op.fieldAddr 53 (Operand.tmp 1) 1, type := 0, pos := "law.go:165", after := #[], guard := none }) (v := ?_) rfl (by kernel_rfl) (by kernel_rfl) (by kernel_rfl) (by kernel_rfl) (fun _ _ _ h => h) (Or.inl ⟨by rfl, ?_⟩) hHeld ?_
  rotate_left 1
  · intro wS; go_simp <;> with_reducible rfl
  (try simp only [Act.put, List.setIfInBounds_toArray, List.set_cons_zero, List.set_cons_succ])
  refine heldT_takeC [9] (i := 3) (oi := { dst := some 37, op := Op.load 22 (Operand.tmp 36), type := 22, pos := "law.go:165", after := #[{ on := 2, ground := Ground.data }], guard := none }) (v := ?_) rfl (by kernel_rfl) (by kernel_rfl) (by kernel_rfl) (by kernel_rfl) (fun _ _ _ h => h) (Or.inl ⟨by rfl, ?_⟩) hHeld ?_
  rotate_left 1
  · intro wS hSw; have hq := HC4.out.keep hSw (fun h => h); have q : wS.cell? ⟨w.heap.size, 5, none⟩ = some (.slice fA F.length fc) := hq.cell 5 rfl; clear hq hSw; go_simp <;> with_reducible rfl
  (try simp only [Act.put, List.setIfInBounds_toArray, List.set_cons_zero, List.set_cons_succ])
  refine heldT_free (i := 4) (oi := { dst := some 38, op := Op.fieldAddr 53 (Operand.tmp 1) 0, type := 0, pos := "law.go:165", after := #[], guard := none }) (v := ?_) rfl (by kernel_rfl) (by kernel_rfl) (by kernel_rfl) (by kernel_rfl) (fun _ _ _ h => h) (Or.inl ⟨by rfl, ?_⟩) hHeld ?_
  rotate_left 1
  · intro wS; go_simp <;> with_reducible rfl
  (try simp only [Act.put, List.setIfInBounds_toArray, List.set_cons_zero, List.set_cons_succ])
  refine heldT_free (i := 5) (oi := { dst := some 39, op := Op.fieldAddr 30 (Operand.tmp 38) 0, type := 0, pos := "law.go:165", after := #[{ on := 4, ground := Ground.data }], guard := none }) (v := ?_) rfl (by kernel_rfl) (by kernel_rfl) (by kernel_rfl) (by kernel_rfl) (fun _ _ _ h => h) (Or.inl ⟨by rfl, ?_⟩) hHeld ?_
  rotate_left 1
  · intro wS; go_simp <;> with_reducible rfl
  (try simp only [Act.put, List.setIfInBounds_toArray, List.set_cons_zero, List.set_cons_succ])
  refine heldT_takeC [9, 8, 7] (i := 6) (oi := { dst := some 40, op := Op.load 3 (Operand.tmp 39), type := 3, pos := "law.go:165", after := #[{ on := 5, ground := Ground.data }], guard := none }) (v := ?_) rfl (by kernel_rfl) (by kernel_rfl) (by kernel_rfl) (by kernel_rfl) (fun _ _ _ h => h) (Or.inl ⟨by rfl, ?_⟩) hHeld ?_
  rotate_left 1
  · intro wS hSw; have hq := HC4.out.keep hSw (fun h => h); have q : wS.cell? ⟨w.heap.size, 0, none⟩ = some (.int .i64 (n : Int)) := hq.cell 0 rfl; clear hq hSw; go_simp <;> with_reducible rfl
  (try simp only [Act.put, List.setIfInBounds_toArray, List.set_cons_zero, List.set_cons_succ])
  refine heldT_free (i := 7) (oi := { dst := some 41, op := Op.binOp BinOp.add 3 (Operand.tmp 40) (Operand.const (Value.int IntKind.i64 1)) 3, type := 3, pos := "law.go:165", after := #[{ on := 6, ground := Ground.data }], guard := none }) (v := ?_) rfl (by kernel_rfl) (by kernel_rfl) (by kernel_rfl) (by kernel_rfl) (fun _ _ _ h => h) (Or.inl ⟨by rfl, ?_⟩) hHeld ?_
  rotate_left 1
  · intro wS; go_simp <;> with_reducible rfl
  (try simp only [Act.put, List.setIfInBounds_toArray, List.set_cons_zero, List.set_cons_succ])
  refine heldT_pair (i := 8) (j := 10) (by kernel_rfl) (by kernel_rfl) rfl rfl (fun K hK => ?_) (fun K hK => ?_)
  · go_simp
    go_wp2_with fail
    refine hK.out _ _ ((Keep.refl (fun _ => False) w4.drew).alloc (.cells (List.replicate (n + 1) (Value.slice none 0 0)).toArray 92)) (fun hHeld => ?_)
    clear hK K
    (try simp only [Act.put, List.setIfInBounds_toArray, List.set_cons_zero, List.set_cons_succ])
    refine heldT_free (i := 9) (oi := { dst := some 43, op := Op.build 59 #[(0, Operand.tmp 35), (3, Operand.tmp 37), (2, Operand.tmp 42)], type := 59, pos := "law.go:165", after := #[{ on := 1, ground := Ground.data }, { on := 3, ground := Ground.data }, { on := 8, ground := Ground.data }], guard := none }) (v := ?_) rfl (by kernel_rfl) (by kernel_rfl) (by kernel_rfl) (by kernel_rfl) (fun _ _ _ h => h) (Or.inl ⟨by rfl, ?_⟩) hHeld ?_
    rotate_left 1
    · intro wS; (refine exec_buildZ (Operand.tmp 35) (Operand.tmp 37) (Operand.tmp 42) ?_ n delay room j lv fA (some ⟨w4.heap.size, 0, none⟩) F.length fc (n + 1) (n + 1) ?_ ?_ ?_ <;> rfl)
    (try simp only [Act.put, List.setIfInBounds_toArray, List.set_cons_zero, List.set_cons_succ])
    refine heldT_one (j := 10) (by kernel_rfl) (by kernel_rfl) rfl (fun K hK => ?_)
    go_simp
    go_wp2_with fail
    refine hK.out _ _ (((Keep.refl (fun _ => False) w4.drew).alloc (.cells (List.replicate (n + 1) (Value.slice none 0 0)).toArray 92)).alloc (.cells (modC md0) 59)) (fun hHeld => ?_)
    clear hK K
    (try simp only [Act.put, List.setIfInBounds_toArray, List.set_cons_zero, List.set_cons_succ])
    refine heldT_tail (by kernel_rfl) rfl rfl (by kernel_rfl) ?_
    (try simp only [List.drop_succ_cons, List.drop_zero])
    have HBZ : Hid (Blk ((w4.drew.alloc (.cells (List.replicate (n + 1) (Value.slice none 0 0)).toArray 92)).alloc (.cells (modC md0) 59)) (w4.heap.size + 1) (modC md0) 59) := by have h := Blk.new (w4.drew.alloc (.cells (List.replicate (n + 1) (Value.slice none 0 0)).toArray 92)) (modC md0) 59; rw [World.size_alloc] at h; exact h
    go_wp2_with (refine wpList_storeM rfl _ _ rfl _ rfl (mdZ n delay room j lv (.slice fA F.length fc) (.slice (some ⟨w4.heap.size, 0, none⟩) (n + 1) (n + 1))) md0 ⟨rfl, rfl, rfl⟩ rfl ?_ ?_; exact HBZ.out; rintro wS hbS hkS)
    refine NoPanic.normal ?_
    have hrow : ((w4.drew.alloc (.cells (List.replicate (n + 1) (Value.slice none 0 0)).toArray 92)).alloc (.cells (modC md0) 59)).ownsRow 0 92 1 (.slice (some ⟨w4.heap.size, 0, none⟩) (n + 1) (n + 1)) (n + 1) (List.replicate (n + 1) (.slice none 0 0)) := by have h := rowN w4.drew n (by omega); exact h.alloc _
    have hkx : Keep (fun _ => False) w4.drew ((w4.drew.alloc (.cells (List.replicate (n + 1) (Value.slice none 0 0)).toArray 92)).alloc (.cells (modC md0) 59)) := ((Keep.refl (fun _ => False) w4.drew).alloc (.cells (List.replicate (n + 1) (Value.slice none 0 0)).toArray 92)).alloc (.cells (modC md0) 59)
    have hz4 : w4.drew.heap.size = w4.heap.size := rfl
    have hkS4 : Keep (fun q => w4.heap.size ≤ q) w4 wS := ((Keep.refl (fun q => w4.heap.size ≤ q) w4).drew.trans hkx (fun q _ h => h.elim)).trans hkS.out (fun q _ e => by omega)
    have HNM : Hid (NM wS col nb n delay room j lv F (mdZ n delay room j lv (.slice fA F.length fc) (.slice (some ⟨w4.heap.size, 0, none⟩) (n + 1) (n + 1))) 0 0) := nm_new (HNT.out.keep hkS4 (fun x hx e => by have := HNT.out.lt hx; omega)) HPL.out HNP.out (ownsRow_keep hrow hkS.out (fun g' hg' e => by have h9 : w4.heap.size = g' := Option.some.inj hg'; omega)) (HTOP.out _ (by omega)) (HF4.out.keep hkS4 (fun g' hg' hp e => by have h9 := HFB.out g' hg' hp; have := HB4.out.size; omega)) (fun g' hg' hp => by have h9 := HFB.out g' hg' hp; exact ⟨HC0.out g' h9, by have := HNB.out; omega⟩) HCF.out HFL.out
    have hcs : Blk wS w.heap.size #[.int .i64 (n : Int), .int .i64 delay, .int .i64 room, .int .i64 j, .int .i64 lv, .slice fA F.length fc, .slice A N k0] 53 := ((HC4.out.keep hkx (fun h => h)).keep hkS.out (by have := HC4.out.lt; omega))
    have y6 : wS.cell? ⟨w.heap.size, 6, none⟩ = some (.slice A N k0) := hcs.cell 6 rfl
    clear hcs
    have HP5 := Lib.hid hbS.out
    obtain ⟨m0, hm0⟩ : ∃ x, x = (mdZ n delay room j lv (.slice fA F.length fc) (.slice (some ⟨w4.heap.size, 0, none⟩) (n + 1) (n + 1))) := ⟨_, rfl⟩
    rw [← hm0] at HNM HP5
    clear hm0
    have HC5 : Hid (col ((w4.heap.size + 1)) = 0) := HTOP.out _ (by omega)
    have HPB : Hid (nb < (w4.heap.size + 1)) := by have := HNT.out.str.lt; show _ < _; omega
    have HPW : Hid (w.heap.size ≤ w4.heap.size) := HB4.out.size
    have HBS : Hid (Below w.heap.size w wS) := bkeep HB4.out hkS4 (Nat.le_refl _) (fun q e => by have := HB4.out.size; omega)
    clear hrow hkx hz4 hkS4 hbS hkS HBZ HNT HPL HNP HC4 HF4
    have HP5W : Hid (w.heap.size ≤ (w4.heap.size + 1)) := by have := HPW.out; show _ ≤ _; omega
    obtain ⟨p5, hp5⟩ : ∃ p5, p5 = (w4.heap.size + 1) := ⟨_, rfl⟩
    rw [← hp5] at HP5 HC5 HPB HP5W ⊢
    clear hp5
    go_wp2_with fail
    clear y6
    go_loopw [6, 8, 9, 47] (fun nw _ _ ic wr => ∃ k : Nat, k ≤ N ∧ ic = .int .i64 k ∧ ∃ col m t, nw = .int .i64 t ∧ Hid (NM wr col nb n delay room j lv F m k t) ∧ Hid (Blk wr p5 (modC m) 59) ∧ Hid (∀ q, col q ≠ 0 → w.heap.size ≤ q) ∧ Hid (col p5 = 0) ∧ Hid (Below w.heap.size w wr)) (fun _ _ _ ic _ => N - (intOf ic).toNat)
    case atStart => exact ⟨0, by omega, rfl, col, _, 0, rfl, HNM, HP5, HCO, HC5, HBS⟩
    case round =>
      obtain ⟨k, hk, rfl, col, m, t, rfl, HNMr, HP5r, HCOr, HC5r, HBr⟩ := hrel
      by_cases hlt : k < N
      · obtain ⟨o, g, p, c', ho, hook, he, d0, d1, d2, d3, d4⟩ := (HX.out.below HBr.out).at (by rw [← HNL.out]; exact hlt)
        cases he
        obtain ⟨A', k', hv, -⟩ := hook.text.val
        rw [hv] at d4
        have htb := HNMr.out.tb
        have hkn := HKN.out
        have hlin := laterI_in t o.later
        obtain ⟨t', ht'⟩ : ∃ t', t' = laterI t o.later := ⟨_, rfl⟩
        have hlat := fun W => later_any t o.later W (by omega)
        rw [← ht'] at hlat hlin
        have HLAT := Lib.hid hlat
        have HLIN := Lib.hid hlin
        have hbo : Below wr.heap.size wr (wr.alloc (.cells #[.int .i64 o.kind, .int .i64 o.r, .int .i64 o.level, .int .i64 o.later, .slice A' o.text.length k'] 61)) := (Below.refl _ _).alloc (Nat.le_refl _) _
        have HBo := Lib.hid (Blk.new wr #[.int .i64 o.kind, .int .i64 o.r, .int .i64 o.level, .int .i64 o.later, .slice A' o.text.length k'] 61)
        have HNMo := Lib.hid (HNMr.out.below hbo)
        have HP5o := Lib.hid (HP5r.out.below hbo)
        have HBro := Lib.hid (bmore HBr.out hbo HBr.out.size)
        have hst := step_any (wr.alloc (.cells #[.int .i64 o.kind, .int .i64 o.r, .int .i64 o.level, .int .i64 o.later, .slice A' o.text.length k'] 61)) HNMo.out (by omega) t' hlin o.kind o.r o.level o.later A' o.text.length k' o.text (by have h := (hook.below hbo).text; rw [hv] at h; exact h) rfl hook.bts (fun q hq hp => by
          have hb0 : q < w.heap.size := by
            have h := (HX.out.each o (List.mem_of_getElem? ho)).text
            rw [hv] at h
            exact h.lt q hq hp
          refine ⟨?_, by have := HBro.out.size; omega⟩
          rcases Nat.eq_zero_or_pos (col q) with e | e
          · exact e
          · have := HCOr.out q (by omega); omega)
        have HST := Lib.hid hst
        have hob := wr.heap.size
        have HOB : Hid (col wr.heap.size = 0) := by obtain ⟨gd, pv, P, fv, asks, vs, Xs, hN, -⟩ := HNMr.out.ex; exact hN.top _ (Nat.le_refl _)
        have i1 : (0 : Int) ≤ (k : Int) := by omega
        have i2 : (k : Int) < (N : Int) := by omega
        clear hbo ho hook hv hlat hlin ht' hst htb hob
        obtain ⟨x0, x1, x2, x3, x4⟩ := blk5' HBo.out
        go_wp2_with fail
        refine (HLAT.out _).mono ?_
        rintro e w5 ⟨rfl, rfl⟩
        go_wp2_with (refine wpList_loadM rfl _ rfl _ rfl m ?_ ?_; exact HP5o.out)
        refine HST.out.mono ?_
        rintro e w5 ⟨m', rfl, hsr⟩
        obtain ⟨⟨col', hnm5, hcc⟩, hkp⟩ := hsr
        have HNM5 := Lib.hid hnm5
        have HCC := Lib.hid hcc
        have HP55 : Hid (Blk w5 p5 (modC m) 59) := HP5o.out.keep hkp (fun e => e.1 HC5r.out)
        have HBo5 : Hid (Blk w5 wr.heap.size #[.int .i64 o.kind, .int .i64 o.r, .int .i64 o.level, .int .i64 o.later, .slice A' o.text.length k'] 61) := HBo.out.keep hkp (fun e => e.1 HOB.out)
        have HB5 : Hid (Below w.heap.size w w5) := bkeep HBro.out hkp (Nat.le_refl _) (fun q e => HCOr.out q e.1)
        have HC55 : Hid (col' p5 = 0) := by show _ = _; rw [hcc p5 HP5o.out.lt]; exact HC5r.out
        have HCO5 : Hid (∀ q, col' q ≠ 0 → w.heap.size ≤ q) := fun q hq => by
          rcases Nat.lt_or_ge q (wr.alloc (.cells #[.int .i64 o.kind, .int .i64 o.r, .int .i64 o.level, .int .i64 o.later, .slice A' o.text.length k'] 61)).heap.size with h | h
          · rw [hcc q h] at hq; exact HCOr.out q hq
          · have := HBro.out.size; omega
        have HMO5 : Hid (modOne m') := by obtain ⟨gd, pv, P, fv, asks, vs, Xs, -, hM, -⟩ := hnm5.ex; exact hM.modOne
        clear hnm5 hcc hkp x0 x1 x2 x3 x4 HST HNMo HP5o HBro HBo HNMr HP5r HCOr HC5r HBr HOB HLAT
        go_wp2_with (first
          | (refine wpList_storeM rfl _ _ rfl _ rfl m' m HMO5.out rfl ?_ ?_; exact HP55.out; rintro w6 hb6 hk6; have HNM6 := Lib.hid (HNM5.out.box HP55.out HPB.out HC55.out hk6.out))
          | (refine wpList_loadMg rfl _ rfl _ rfl m' ?_ ?_; exact hb6.out))
        have HB6 : Hid (Below w.heap.size w w6) := bkeep HB5.out hk6.out (Nat.le_refl _) (fun q e => by have := HPW.out; have := HP5W.out; omega)
        refine (same_any _ HNM6.out).mono ?_
        rintro e w7 ⟨rfl, hb7⟩
        have HNM7 := Lib.hid (HNM6.out.below hb7)
        have HP57 := Lib.hid (hb6.out.below hb7)
        have HB7 := Lib.hid (bmore HB6.out hb7 HB6.out.size)
        clear hb7 hb6 hk6 HNM5 HNM6 HP55 HB5 HB6 HBo5 HCC
        go_wp2_with fail
        go_roundw
        case rel => exact ⟨k + 1, by omega, by go_num, col', m', t', rfl, HNM7, HP57, HCO5, HC55, HB7⟩
        case measure => simp [intOf]; omega
      · obtain rfl : k = N := by omega
        obtain ⟨wb, hwb⟩ : ∃ wb : World, wb = wr := ⟨_, rfl⟩
        rw [← hwb] at HBr ⊢
        clear hwb HNMr HP5r
        go_wp2_with fail
        refine (awake_any wb).mono ?_
        rintro e w7 ⟨rfl, hb7⟩
        have HB7 := Lib.hid (bmore HBr.out hb7 HBr.out.size)
        clear hb7
        go_wp2
        go_ret
        exact ⟨rfl, HB7.out⟩
  · go_simp
    go_wp2_with fail
    refine hK.out _ _ ((Keep.refl (fun _ => False) w4.drew).alloc (.cells (modC md0) 59)) (fun hHeld => ?_)
    clear hK K
    (try simp only [Act.put, List.setIfInBounds_toArray, List.set_cons_zero, List.set_cons_succ])
    refine heldT_one (j := 8) (by kernel_rfl) (by kernel_rfl) rfl (fun K hK => ?_)
    go_simp
    go_wp2_with fail
    refine hK.out _ _ (((Keep.refl (fun _ => False) w4.drew).alloc (.cells (modC md0) 59)).alloc (.cells (List.replicate (n + 1) (Value.slice none 0 0)).toArray 92)) (fun hHeld => ?_)
    clear hK K
    (try simp only [Act.put, List.setIfInBounds_toArray, List.set_cons_zero, List.set_cons_succ])
    refine heldT_free (i := 9) (oi := { dst := some 43, op := Op.build 59 #[(0, Operand.tmp 35), (3, Operand.tmp 37), (2, Operand.tmp 42)], type := 59, pos := "law.go:165", after := #[{ on := 1, ground := Ground.data }, { on := 3, ground := Ground.data }, { on := 8, ground := Ground.data }], guard := none }) (v := ?_) rfl (by kernel_rfl) (by kernel_rfl) (by kernel_rfl) (by kernel_rfl) (fun _ _ _ h => h) (Or.inl ⟨by rfl, ?_⟩) hHeld ?_
    rotate_left 1
    · intro wS; (refine exec_buildZ (Operand.tmp 35) (Operand.tmp 37) (Operand.tmp 42) ?_ n delay room j lv fA (some ⟨(w4.heap.size + 1), 0, none⟩) F.length fc (n + 1) (n + 1) ?_ ?_ ?_ <;> rfl)
    (try simp only [Act.put, List.setIfInBounds_toArray, List.set_cons_zero, List.set_cons_succ])
    refine heldT_tail (by kernel_rfl) rfl rfl (by kernel_rfl) ?_
    (try simp only [List.drop_succ_cons, List.drop_zero])
    have HBZ : Hid (Blk ((w4.drew.alloc (.cells (modC md0) 59)).alloc (.cells (List.replicate (n + 1) (Value.slice none 0 0)).toArray 92)) w4.heap.size (modC md0) 59) := (Blk.new w4.drew (modC md0) 59).alloc _
    go_wp2_with (refine wpList_storeM rfl _ _ rfl _ rfl (mdZ n delay room j lv (.slice fA F.length fc) (.slice (some ⟨(w4.heap.size + 1), 0, none⟩) (n + 1) (n + 1))) md0 ⟨rfl, rfl, rfl⟩ rfl ?_ ?_; exact HBZ.out; rintro wS hbS hkS)
    refine NoPanic.normal ?_
    have hrow : ((w4.drew.alloc (.cells (modC md0) 59)).alloc (.cells (List.replicate (n + 1) (Value.slice none 0 0)).toArray 92)).ownsRow 0 92 1 (.slice (some ⟨(w4.heap.size + 1), 0, none⟩) (n + 1) (n + 1)) (n + 1) (List.replicate (n + 1) (.slice none 0 0)) := by have h := rowN (w4.drew.alloc (.cells (modC md0) 59)) n (by omega); rw [World.size_alloc] at h; exact h
    have hkx : Keep (fun _ => False) w4.drew ((w4.drew.alloc (.cells (modC md0) 59)).alloc (.cells (List.replicate (n + 1) (Value.slice none 0 0)).toArray 92)) := ((Keep.refl (fun _ => False) w4.drew).alloc (.cells (modC md0) 59)).alloc (.cells (List.replicate (n + 1) (Value.slice none 0 0)).toArray 92)
    have hz4 : w4.drew.heap.size = w4.heap.size := rfl
    have hkS4 : Keep (fun q => w4.heap.size ≤ q) w4 wS := ((Keep.refl (fun q => w4.heap.size ≤ q) w4).drew.trans hkx (fun q _ h => h.elim)).trans hkS.out (fun q _ e => by omega)
    have HNM : Hid (NM wS col nb n delay room j lv F (mdZ n delay room j lv (.slice fA F.length fc) (.slice (some ⟨(w4.heap.size + 1), 0, none⟩) (n + 1) (n + 1))) 0 0) := nm_new (HNT.out.keep hkS4 (fun x hx e => by have := HNT.out.lt hx; omega)) HPL.out HNP.out (ownsRow_keep hrow hkS.out (fun g' hg' e => by have h9 : (w4.heap.size + 1) = g' := Option.some.inj hg'; omega)) (HTOP.out _ (by omega)) (HF4.out.keep hkS4 (fun g' hg' hp e => by have h9 := HFB.out g' hg' hp; have := HB4.out.size; omega)) (fun g' hg' hp => by have h9 := HFB.out g' hg' hp; exact ⟨HC0.out g' h9, by have := HNB.out; omega⟩) HCF.out HFL.out
    have hcs : Blk wS w.heap.size #[.int .i64 (n : Int), .int .i64 delay, .int .i64 room, .int .i64 j, .int .i64 lv, .slice fA F.length fc, .slice A N k0] 53 := ((HC4.out.keep hkx (fun h => h)).keep hkS.out (by have := HC4.out.lt; omega))
    have y6 : wS.cell? ⟨w.heap.size, 6, none⟩ = some (.slice A N k0) := hcs.cell 6 rfl
    clear hcs
    have HP5 := Lib.hid hbS.out
    obtain ⟨m0, hm0⟩ : ∃ x, x = (mdZ n delay room j lv (.slice fA F.length fc) (.slice (some ⟨(w4.heap.size + 1), 0, none⟩) (n + 1) (n + 1))) := ⟨_, rfl⟩
    rw [← hm0] at HNM HP5
    clear hm0
    have HC5 : Hid (col (w4.heap.size) = 0) := HTOP.out _ (by omega)
    have HPB : Hid (nb < w4.heap.size) := by have := HNT.out.str.lt; show _ < _; omega
    have HPW : Hid (w.heap.size ≤ w4.heap.size) := HB4.out.size
    have HBS : Hid (Below w.heap.size w wS) := bkeep HB4.out hkS4 (Nat.le_refl _) (fun q e => by have := HB4.out.size; omega)
    clear hrow hkx hz4 hkS4 hbS hkS HBZ HNT HPL HNP HC4 HF4
    have HP5W : Hid (w.heap.size ≤ w4.heap.size) := by have := HPW.out; show _ ≤ _; omega
    obtain ⟨p5, hp5⟩ : ∃ p5, p5 = w4.heap.size := ⟨_, rfl⟩
    rw [← hp5] at HP5 HC5 HPB HP5W ⊢
    clear hp5
    go_wp2_with fail
    clear y6
    go_loopw [6, 8, 9, 47] (fun nw _ _ ic wr => ∃ k : Nat, k ≤ N ∧ ic = .int .i64 k ∧ ∃ col m t, nw = .int .i64 t ∧ Hid (NM wr col nb n delay room j lv F m k t) ∧ Hid (Blk wr p5 (modC m) 59) ∧ Hid (∀ q, col q ≠ 0 → w.heap.size ≤ q) ∧ Hid (col p5 = 0) ∧ Hid (Below w.heap.size w wr)) (fun _ _ _ ic _ => N - (intOf ic).toNat)
    case atStart => exact ⟨0, by omega, rfl, col, _, 0, rfl, HNM, HP5, HCO, HC5, HBS⟩
    case round =>
      obtain ⟨k, hk, rfl, col, m, t, rfl, HNMr, HP5r, HCOr, HC5r, HBr⟩ := hrel
      by_cases hlt : k < N
      · obtain ⟨o, g, p, c', ho, hook, he, d0, d1, d2, d3, d4⟩ := (HX.out.below HBr.out).at (by rw [← HNL.out]; exact hlt)
        cases he
        obtain ⟨A', k', hv, -⟩ := hook.text.val
        rw [hv] at d4
        have htb := HNMr.out.tb
        have hkn := HKN.out
        have hlin := laterI_in t o.later
        obtain ⟨t', ht'⟩ : ∃ t', t' = laterI t o.later := ⟨_, rfl⟩
        have hlat := fun W => later_any t o.later W (by omega)
        rw [← ht'] at hlat hlin
        have HLAT := Lib.hid hlat
        have HLIN := Lib.hid hlin
        have hbo : Below wr.heap.size wr (wr.alloc (.cells #[.int .i64 o.kind, .int .i64 o.r, .int .i64 o.level, .int .i64 o.later, .slice A' o.text.length k'] 61)) := (Below.refl _ _).alloc (Nat.le_refl _) _
        have HBo := Lib.hid (Blk.new wr #[.int .i64 o.kind, .int .i64 o.r, .int .i64 o.level, .int .i64 o.later, .slice A' o.text.length k'] 61)
        have HNMo := Lib.hid (HNMr.out.below hbo)
        have HP5o := Lib.hid (HP5r.out.below hbo)
        have HBro := Lib.hid (bmore HBr.out hbo HBr.out.size)
        have hst := step_any (wr.alloc (.cells #[.int .i64 o.kind, .int .i64 o.r, .int .i64 o.level, .int .i64 o.later, .slice A' o.text.length k'] 61)) HNMo.out (by omega) t' hlin o.kind o.r o.level o.later A' o.text.length k' o.text (by have h := (hook.below hbo).text; rw [hv] at h; exact h) rfl hook.bts (fun q hq hp => by
          have hb0 : q < w.heap.size := by
            have h := (HX.out.each o (List.mem_of_getElem? ho)).text
            rw [hv] at h
            exact h.lt q hq hp
          refine ⟨?_, by have := HBro.out.size; omega⟩
          rcases Nat.eq_zero_or_pos (col q) with e | e
          · exact e
          · have := HCOr.out q (by omega); omega)
        have HST := Lib.hid hst
        have hob := wr.heap.size
        have HOB : Hid (col wr.heap.size = 0) := by obtain ⟨gd, pv, P, fv, asks, vs, Xs, hN, -⟩ := HNMr.out.ex; exact hN.top _ (Nat.le_refl _)
        have i1 : (0 : Int) ≤ (k : Int) := by omega
        have i2 : (k : Int) < (N : Int) := by omega
        clear hbo ho hook hv hlat hlin ht' hst htb hob
        obtain ⟨x0, x1, x2, x3, x4⟩ := blk5' HBo.out
        go_wp2_with fail
        refine (HLAT.out _).mono ?_
        rintro e w5 ⟨rfl, rfl⟩
        go_wp2_with (refine wpList_loadM rfl _ rfl _ rfl m ?_ ?_; exact HP5o.out)
        refine HST.out.mono ?_
        rintro e w5 ⟨m', rfl, hsr⟩
        obtain ⟨⟨col', hnm5, hcc⟩, hkp⟩ := hsr
        have HNM5 := Lib.hid hnm5
        have HCC := Lib.hid hcc
        have HP55 : Hid (Blk w5 p5 (modC m) 59) := HP5o.out.keep hkp (fun e => e.1 HC5r.out)
        have HBo5 : Hid (Blk w5 wr.heap.size #[.int .i64 o.kind, .int .i64 o.r, .int .i64 o.level, .int .i64 o.later, .slice A' o.text.length k'] 61) := HBo.out.keep hkp (fun e => e.1 HOB.out)
        have HB5 : Hid (Below w.heap.size w w5) := bkeep HBro.out hkp (Nat.le_refl _) (fun q e => HCOr.out q e.1)
        have HC55 : Hid (col' p5 = 0) := by show _ = _; rw [hcc p5 HP5o.out.lt]; exact HC5r.out
        have HCO5 : Hid (∀ q, col' q ≠ 0 → w.heap.size ≤ q) := fun q hq => by
          rcases Nat.lt_or_ge q (wr.alloc (.cells #[.int .i64 o.kind, .int .i64 o.r, .int .i64 o.level, .int .i64 o.later, .slice A' o.text.length k'] 61)).heap.size with h | h
          · rw [hcc q h] at hq; exact HCOr.out q hq
          · have := HBro.out.size; omega
        have HMO5 : Hid (modOne m') := by obtain ⟨gd, pv, P, fv, asks, vs, Xs, -, hM, -⟩ := hnm5.ex; exact hM.modOne
        clear hnm5 hcc hkp x0 x1 x2 x3 x4 HST HNMo HP5o HBro HBo HNMr HP5r HCOr HC5r HBr HOB HLAT
        go_wp2_with (first
          | (refine wpList_storeM rfl _ _ rfl _ rfl m' m HMO5.out rfl ?_ ?_; exact HP55.out; rintro w6 hb6 hk6; have HNM6 := Lib.hid (HNM5.out.box HP55.out HPB.out HC55.out hk6.out))
          | (refine wpList_loadMg rfl _ rfl _ rfl m' ?_ ?_; exact hb6.out))
        have HB6 : Hid (Below w.heap.size w w6) := bkeep HB5.out hk6.out (Nat.le_refl _) (fun q e => by have := HPW.out; have := HP5W.out; omega)
        refine (same_any _ HNM6.out).mono ?_
        rintro e w7 ⟨rfl, hb7⟩
        have HNM7 := Lib.hid (HNM6.out.below hb7)
        have HP57 := Lib.hid (hb6.out.below hb7)
        have HB7 := Lib.hid (bmore HB6.out hb7 HB6.out.size)
        clear hb7 hb6 hk6 HNM5 HNM6 HP55 HB5 HB6 HBo5 HCC
        go_wp2_with fail
        go_roundw
        case rel => exact ⟨k + 1, by omega, by go_num, col', m', t', rfl, HNM7, HP57, HCO5, HC55, HB7⟩
        case measure => simp [intOf]; omega
      · obtain rfl : k = N := by omega
        obtain ⟨wb, hwb⟩ : ∃ wb : World, wb = wr := ⟨_, rfl⟩
        rw [← hwb] at HBr ⊢
        clear hwb HNMr HP5r
        go_wp2_with fail
        refine (awake_any wb).mono ?_
        rintro e w7 ⟨rfl, hb7⟩
        have HB7 := Lib.hid (bmore HBr.out hb7 HBr.out.size)
        clear hb7
        go_wp2
        go_ret
        exact ⟨rfl, HB7.out⟩
set_option maxRecDepth 100000 in
theorem simnetPlays_no (rc delay room j lv : Int) (fA : Option Addr) (fn fc : Nat) (A : Option Addr) (k0 : Nat) (ops : List OpN) (w : World) (hx : OpsOk w (.slice A ops.length k0) ops) (h : ¬ CfgOk rc delay room j lv ∨ (CfgOk rc delay room j lv ∧ lightB ops fn rc = false)) :
    Calls Try.prog 5 #[.agg (casC rc delay room j lv (.slice fA fn fc) (.slice A ops.length k0))] w fun e w' => e = .returned (.bool true) ∧ Below w.heap.size w w' := by
  have HX := Lib.hid hx
  have hlg := fun W (hW : OpsOk W (.slice A ops.length k0) ops) => light_any rc delay room j lv fA fn fc (.slice A ops.length k0) ops W hW
  obtain ⟨N, hnl⟩ : ∃ N, N = ops.length := ⟨_, rfl⟩
  have HNL := Lib.hid hnl
  rw [← hnl] at hlg ⊢
  have HC0' := Lib.hid (Blk.new w #[.int .i64 rc, .int .i64 delay, .int .i64 room, .int .i64 j, .int .i64 lv, .slice fA fn fc, .slice A N k0] 53)
  have HB1 := Lib.hid ((Below.refl _ w).alloc (Nat.le_refl _) (.cells #[.int .i64 rc, .int .i64 delay, .int .i64 room, .int .i64 j, .int .i64 lv, .slice fA fn fc, .slice A N k0] 53))
  unfold casC at *
  obtain ⟨x0, x1, x2, x3, x4, x5, x6⟩ := blk7' HC0'.out
  rcases h with h | ⟨h, hl⟩
  · have HRT := Lib.hid (fun W => right_no rc delay room j lv W h)
    clear hx hnl hlg h
    go_enter Try.func5, Try.ntmps5
    go_wp2_with fail
    generalize w.alloc (.cells #[.int .i64 rc, .int .i64 delay, .int .i64 room, .int .i64 j, .int .i64 lv, .slice fA fn fc, .slice A N k0] 53) = w1 at *
    refine (HRT.out _).mono ?_
    rintro e w2 ⟨rfl, hb2⟩
    have HB2 := Lib.hid (bmore HB1.out hb2 HB1.out.size)
    clear hb2 x0 x1 x2 x3 x4 x5 x6
    go_wp2_with fail
    refine (awake_any _).mono ?_
    rintro e w7 ⟨rfl, hb7⟩
    have HB7 := Lib.hid (bmore HB2.out hb7 HB2.out.size)
    clear hb7
    go_wp2
    go_ret
    exact ⟨rfl, HB7.out⟩
  · have HRT := Lib.hid (fun W => right_yes rc delay room j lv W h)
    rw [hl] at hlg
    have HLG := Lib.hid hlg
    clear hx hnl hlg h hl
    go_enter Try.func5, Try.ntmps5
    go_wp2_with fail
    generalize w.alloc (.cells #[.int .i64 rc, .int .i64 delay, .int .i64 room, .int .i64 j, .int .i64 lv, .slice fA fn fc, .slice A N k0] 53) = w1 at *
    refine (HRT.out _).mono ?_
    rintro e w2 ⟨rfl, hb2⟩
    have HB2 := Lib.hid (bmore HB1.out hb2 HB1.out.size)
    have HC2 := Lib.hid (HC0'.out.below hb2)
    clear hb2 x0 x1 x2 x3 x4 x5 x6
    obtain ⟨x0, x1, x2, x3, x4, x5, x6⟩ := blk7' HC2.out
    go_wp2_with fail
    refine (HLG.out _ (by have h := HX.out.below HB2.out; rw [← HNL.out] at h; exact h)).mono ?_
    rintro e w3 ⟨rfl, hb3⟩
    have HB3 := Lib.hid (bmore HB2.out hb3 HB2.out.size)
    clear hb3 x0 x1 x2 x3 x4 x5 x6
    go_wp2_with fail
    refine (awake_any _).mono ?_
    rintro e w7 ⟨rfl, hb7⟩
    have HB7 := Lib.hid (bmore HB3.out hb7 HB3.out.size)
    clear hb7
    go_wp2
    go_ret
    exact ⟨rfl, HB7.out⟩
theorem simnetPlays_any (rc delay room j lv : Int) (fv : Value) (F : List FD) (v : Value) (ops : List OpN) (w : World) (hx : OpsOk w v ops) (hF : Reads w 2 fv F.length (F.flatMap fateCells)) :
    Calls Try.prog 5 #[.agg (casC rc delay room j lv fv v)] w fun e w' => e = .returned (.bool true) ∧ Below w.heap.size w w' := by
  obtain ⟨A, k0, rfl, -⟩ := hx.reads.val
  obtain ⟨fA, fc, rfl, -⟩ := hF.val
  by_cases h : CfgOk rc delay room j lv
  · cases hl : lightB ops F.length rc with
    | false => exact simnetPlays_no rc delay room j lv fA F.length fc A k0 ops w hx (.inr ⟨h, hl⟩)
    | true =>
      obtain ⟨n, rfl⟩ := Int.eq_ofNat_of_zero_le (show 0 ≤ rc by have := h.rc; omega)
      exact simnetPlays_yes n delay room j lv fA fc F A k0 ops w hx hF h hl
  · exact simnetPlays_no rc delay room j lv fA F.length fc A k0 ops w hx (.inl h)
end Go.Proofs.Ytlodiibmofeikaa
