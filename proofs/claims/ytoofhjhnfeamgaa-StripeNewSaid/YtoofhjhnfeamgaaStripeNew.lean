/- stripe: the law StripeNew. -/
import Derived.Test.YtoofhjhnfeamgaaStripeBlocks
import Derived.Test.YtoofhjhnfeamgaaFam
namespace Go.Proofs.Ytoofhjhnfeamgaa
open Go.RowKit
set_option linter.unusedVariables false
set_option linter.unusedSimpArgs false

set_option maxRecDepth 100000 in
theorem refblocks_any (s k : Nat) (w : World) (h1 : s ≤ 16384) (hk : 1 ≤ k) (hk2 : k ≤ 64) :
    Calls Try.prog 14 #[.int .i64 s, .int .i64 k] w fun e w' => e = .returned (.int .i64 (nb s k)) ∧ w = w' := by
  have hl := nb_le h1 hk
  have HL := Lib.hid (fun i => nb_lt (s := s) (k := k) (i := i) hk)
  generalize nb s k = z at *
  go_enter Try.func14, Try.ntmps14
  go_wp2_with fail
  go_loopw [5] (fun p wr => ∃ q : Nat, q ≤ z ∧ p = .int .i64 q ∧ Hid (wr = w)) (fun p _ => z - (intOf p).toNat)
  case atStart => exact ⟨0, by omega, rfl, Lib.hid rfl⟩
  case round =>
    obtain ⟨q, hq, rfl, HW⟩ := hrel
    have hm := mul_le' (i := q) (k := k) (by omega) hk2
    have e1 : (q : Int) * (k : Int) = ((q * k : Nat) : Int) := (Int.natCast_mul q k).symm
    have w1 : wrap64 ((q : Int) * (k : Int)) = ((q * k : Nat) : Int) := by rw [e1]; unfold wrap64; omega
    by_cases hqz : q < z
    · have h2 := (HL.out q).1 hqz
      have t1 : wrap64 ((q : Int) * (k : Int)) < (s : Int) := by rw [w1]; omega
      clear e1 w1 hm
      generalize q * k = y at *
      go_wp2
      go_roundw
      case rel => exact ⟨q + 1, by omega, by go_num, HW⟩
      case measure => simp [intOf]; omega
    · obtain rfl : q = z := by omega
      have h2 : ¬ q * k < s := fun h => hqz ((HL.out q).2 h)
      have t1 : ¬ wrap64 ((q : Int) * (k : Int)) < (s : Int) := by rw [w1]; omega
      clear e1 w1 hm
      generalize q * k = y at *
      go_wp2
      go_ret
      exact ⟨rfl, HW.out.symm⟩
set_option maxRecDepth 100000 in
theorem size_pl (b s k n : Nat) (w : World) (h : PlanAt w b s k n) : Calls Try.prog 11 #[.pointer (some ⟨b, 0, none⟩)] w fun e w' => e = .returned (.int .i64 s) ∧ w = w' := by
  obtain ⟨c0, c1, c2⟩ := h.c
  clear h
  go_enter Try.func11, Try.ntmps11
  go_wp2
  go_ret
  exact ⟨rfl, rfl⟩
set_option maxRecDepth 100000 in
theorem layers_pl (b s k n : Nat) (w : World) (h : PlanAt w b s k n) : Calls Try.prog 12 #[.pointer (some ⟨b, 0, none⟩)] w fun e w' => e = .returned (.int .i64 n) ∧ w = w' := by
  obtain ⟨c0, c1, c2⟩ := h.c
  clear h
  go_enter Try.func12, Try.ntmps12
  go_wp2
  go_ret
  exact ⟨rfl, rfl⟩
set_option maxRecDepth 100000 in
set_option maxHeartbeats 1000000 in
theorem stripeNew_no (s k n : Int) (w : World) (h : planB s k n = false) :
    Calls Try.prog 3 #[.agg #[.int .i64 s, .int .i64 k, .int .i64 n]] w fun e w' => e = .returned (.bool true) ∧ Below w.heap.size w w' := by
  have HR := Lib.hid (right_any' s k n)
  rw [h] at HR
  have HN := Lib.hid (fun w => pnew_no s k n w h)
  have HAW := Lib.hid awake_any
  have hb := Blk.new w #[.int .i64 s, .int .i64 k, .int .i64 n] 23
  have HB := Lib.hid ((Below.refl _ w).alloc (Nat.le_refl w.heap.size) (.cells #[.int .i64 s, .int .i64 k, .int .i64 n] 23))
  have c0 := hb.cell 0 (v := .int .i64 s) rfl
  have c1 := hb.cell 1 (v := .int .i64 k) rfl
  have c2 := hb.cell 2 (v := .int .i64 n) rfl
  clear h hb
  go_enter Try.func3, Try.ntmps3
  go_wp2_with fail
  refine (HN.out _).mono ?_
  rintro e w3 ⟨rfl, rfl⟩
  go_wp2_with fail
  refine (HR.out _).mono ?_
  rintro e w3 ⟨rfl, rfl⟩
  go_wp2_with fail
  refine (HAW.out _).mono ?_
  rintro e w3 ⟨rfl, hb⟩
  have HB3 := Lib.hid (bmore HB.out hb HB.out.size)
  clear hb
  go_wp2
  go_ret
  exact ⟨rfl, HB3.out⟩
set_option maxRecDepth 100000 in
set_option maxHeartbeats 4000000 in
theorem stripeNew_yes (s k n : Nat) (w : World) (hp : PlanOk s k n) :
    Calls Try.prog 3 #[.agg #[.int .i64 s, .int .i64 k, .int .i64 n]] w fun e w' => e = .returned (.bool true) ∧ Below w.heap.size w w' := by
  have HR := Lib.hid (right_any' s k n)
  rw [planB_nat.2 hp] at HR
  have HAW := Lib.hid awake_any
  have HN := Lib.hid (fun w => pnew_yes s k n w hp)
  have HSI := Lib.hid (fun b w h => size_pl b s k n w h)
  have HLS := Lib.hid (fun b w h => layers_pl b s k n w h)
  have HBL := Lib.hid (fun b w h => blocks_any b s k n w h hp)
  have HRB := Lib.hid (fun w => refblocks_any s k w hp.1 hp.2.1 hp.2.2.1)
  have hb := Blk.new w #[.int .i64 s, .int .i64 k, .int .i64 n] 23
  have HB := Lib.hid ((Below.refl _ w).alloc (Nat.le_refl w.heap.size) (.cells #[.int .i64 s, .int .i64 k, .int .i64 n] 23))
  have HC : Hid (∀ w', Below (w.heap.size + 1) (w.alloc (.cells #[.int .i64 s, .int .i64 k, .int .i64 n] 23)) w' → Blk w' w.heap.size #[.int .i64 s, .int .i64 k, .int .i64 n] 23) := fun w' h => hb.keep (Keep.ofBelow h) (by omega)
  have hsz : (w.alloc (.cells #[.int .i64 s, .int .i64 k, .int .i64 n] 23)).heap.size = w.heap.size + 1 := by simp
  have HSZ := Lib.hid hsz
  have c0 := hb.cell 0 (v := .int .i64 s) rfl
  have c1 := hb.cell 1 (v := .int .i64 k) rfl
  have c2 := hb.cell 2 (v := .int .i64 n) rfl
  clear hb hp hsz
  generalize nb s k = z at *
  go_enter Try.func3, Try.ntmps3
  go_wp2_with fail
  refine (HN.out _).mono ?_
  rintro e w4 ⟨rfl, hp4, hb4⟩
  rw [HSZ.out] at hp4 hb4 ⊢
  have HP := Lib.hid hp4
  have hc4 := HC.out w4 hb4
  have HB4 := Lib.hid (bmore HB.out hb4 (Nat.le_succ _))
  have q0 := hc4.cell 0 (v := .int .i64 s) rfl
  have q1 := hc4.cell 1 (v := .int .i64 k) rfl
  have q2 := hc4.cell 2 (v := .int .i64 n) rfl
  clear hp4 hb4 hc4 c0 c1 c2 HB HC
  have t1 : ((s : Int) == (s : Int)) = true := by simp
  have t2 : ((n : Int) == (n : Int)) = true := by simp
  have t3 : ((z : Int) == (z : Int)) = true := by simp
  have T := Lib.hid (And.intro t1 (And.intro t2 t3))
  clear t1 t2 t3
  go_wp2_with fail
  refine (HR.out _).mono ?_
  rintro e w3 ⟨rfl, rfl⟩
  go_wp2_with fail
  obtain ⟨G, hne, F, hF, hG⟩ := fam_of w4
  have HF := Lib.hid hF
  have HG := Lib.hid hG
  have f0 : ∀ g, (F g).cell? ⟨w.heap.size, 0, none⟩ = some (.int .i64 s) := fun g => (World.cell?_of_block (w := w4) ((hF g).block _ (World.block_lt_of_cell? _ _ q0))).trans q0
  have f1 : ∀ g, (F g).cell? ⟨w.heap.size, 1, none⟩ = some (.int .i64 k) := fun g => (World.cell?_of_block (w := w4) ((hF g).block _ (World.block_lt_of_cell? _ _ q1))).trans q1
  have f2 : ∀ g, (F g).cell? ⟨w.heap.size, 2, none⟩ = some (.int .i64 n) := fun g => (World.cell?_of_block (w := w4) ((hF g).block _ (World.block_lt_of_cell? _ _ q2))).trans q2
  have HP2 : Hid (∀ g, PlanAt (F g) (w.heap.size + 1) s k n) := fun g => HP.out.below (hF g)
  have hd : ∃ g, { w4 with drawn := w4.drawn + 1 } = F g := hG _ (below_drewN (Below.refl _ w4) 1)
  have HD := Lib.hid hd
  have KSI : Hid (∀ g, _) := fun g => fam_same (g := g) (HSI.out _ (F g) (HP2.out g))
  have KLS : Hid (∀ g, _) := fun g => fam_same (g := g) (HLS.out _ (F g) (HP2.out g))
  have KBL : Hid (∀ g, _) := fun g => fam_call hF hG (g := g) (HBL.out _ (F g) (HP2.out g))
  have KRB : Hid (∀ g, _) := fun g => fam_same (g := g) (HRB.out (F g))
  have KAW : Hid (∀ g, _) := fun g => fam_call hF hG (g := g) (HAW.out (F g))
  clear hd hF hG q0 q1 q2
  obtain ⟨t1, t2, t3⟩ := T.out
  refine wp_region_fam F (by kernel_rfl) (by kernel_rfl) HD.out ?_
  repeat (go_big_quiet_step (first
    | (go_at_call 11; exact KSI.out _)
    | (go_at_call 12; exact KLS.out _)
    | (go_at_call 13; exact KBL.out _)
    | (go_at_call 14; exact KRB.out _)
    | (go_at_call 10; exact KAW.out _)))
  refine wpQuiet_nil ?_
  intro _ hw'
  obtain ⟨g, hw'⟩ := hw'
  subst hw'
  have HB5 := Lib.hid (bmore HB4.out (HF.out g) HB4.out.size)
  clear f0 f1 f2
  go_wp2
  go_ret
  exact ⟨rfl, HB5.out⟩
theorem stripeNew_any (s k n : Int) (w : World) :
    Calls Try.prog 3 #[.agg #[.int .i64 s, .int .i64 k, .int .i64 n]] w fun e w' => e = .returned (.bool true) ∧ Below w.heap.size w w' := by
  cases h : planB s k n with
  | false => exact stripeNew_no s k n w h
  | true =>
    obtain ⟨s', k', n', rfl, rfl, rfl, hp⟩ := planB_ok h
    exact stripeNew_yes s' k' n' w hp
end Go.Proofs.Ytoofhjhnfeamgaa
