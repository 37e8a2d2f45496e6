/- stripe: the law StripeBlocks. -/
import Derived.Test.YtoofhjhnfeamgaaStripe3
namespace Go.Proofs.Ytoofhjhnfeamgaa
open Go.RowKit
set_option linter.unusedVariables false
set_option linter.unusedSimpArgs false

theorem nb_lt {s k i : Nat} (hk : 1 ≤ k) : i < nb s k ↔ i * k < s := by
  unfold nb
  rw [show i < (s + k - 1) / k ↔ i + 1 ≤ (s + k - 1) / k from Iff.rfl, Nat.le_div_iff_mul_le hk, Nat.add_mul]
  omega
set_option maxRecDepth 100000 in
set_option maxHeartbeats 1000000 in
theorem stripeBlocks_no (s k n i : Int) (w : World) (h : planB s k n = false) :
    Calls Try.prog 4 #[.agg #[.int .i64 s, .int .i64 k, .int .i64 n], .int .i64 i] w fun e w' => e = .returned (.bool true) ∧ Below w.heap.size w w' := by
  have HR := Lib.hid (right_any' s k n)
  rw [h] at HR
  have HAW := Lib.hid awake_any
  have hb := Blk.new w #[.int .i64 s, .int .i64 k, .int .i64 n] 23
  have HB := Lib.hid ((Below.refl _ w).alloc (Nat.le_refl w.heap.size) (.cells #[.int .i64 s, .int .i64 k, .int .i64 n] 23))
  have c0 := hb.cell 0 (v := .int .i64 s) rfl
  have c1 := hb.cell 1 (v := .int .i64 k) rfl
  have c2 := hb.cell 2 (v := .int .i64 n) rfl
  clear h hb
  go_enter Try.func4, Try.ntmps4
  go_wp2_with fail
  refine (HR.out _).mono ?_
  rintro e w3 ⟨rfl, rfl⟩
  go_wp2_with fail
  refine (HAW.out _).mono ?_
  rintro e w3 ⟨rfl, hb⟩
  have HB3 := Lib.hid (bmore HB.out hb HB.out.size)
  clear hb
  go_wp2
  go_ret
  exact ⟨rfl, HB3.out⟩
set_option maxRecDepth 100000 in
set_option maxHeartbeats 4000000 in
theorem stripeBlocks_yes (s k n : Nat) (i : Int) (w : World) (hp : PlanOk s k n) :
    Calls Try.prog 4 #[.agg #[.int .i64 s, .int .i64 k, .int .i64 n], .int .i64 i] w fun e w' => e = .returned (.bool true) ∧ Below w.heap.size w w' := by
  have HR := Lib.hid (right_any' s k n)
  rw [planB_nat.2 hp] at HR
  have HAW := Lib.hid awake_any
  have HPL := Lib.hid (fun w => plan_any s k n w hp)
  have HLY := Lib.hid (fun b i w h => layerp_any b s k n i w h hp)
  have HBL := Lib.hid (fun b w h => blocks_any b s k n w h hp)
  have HBN := Lib.hid (fun b i w h => bytes_no b s k n i w h hp)
  have HBY := Lib.hid (fun b i w h => bytes_yes b s k n i w h hp)
  have HRL := Lib.hid (fun i w hi => reflayer_any i n w hi hp.2.2.2)
  have hb := Blk.new w #[.int .i64 s, .int .i64 k, .int .i64 n] 23
  have HB := Lib.hid ((Below.refl _ w).alloc (Nat.le_refl w.heap.size) (.cells #[.int .i64 s, .int .i64 k, .int .i64 n] 23))
  have HC : Hid (∀ w', Below (w.heap.size + 1) (w.alloc (.cells #[.int .i64 s, .int .i64 k, .int .i64 n] 23)) w' → Blk w' w.heap.size #[.int .i64 s, .int .i64 k, .int .i64 n] 23) := fun w' h => hb.keep (Keep.ofBelow h) (by omega)
  have hsz : (w.alloc (.cells #[.int .i64 s, .int .i64 k, .int .i64 n] 23)).heap.size = w.heap.size + 1 := by simp
  have HSZ := Lib.hid hsz
  have c0 := hb.cell 0 (v := .int .i64 s) rfl
  have c1 := hb.cell 1 (v := .int .i64 k) rfl
  have c2 := hb.cell 2 (v := .int .i64 n) rfl
  have hl := nb_le hp.1 hp.2.1
  have h1 := hp.1
  have hk1 := hp.2.1
  have hk2 := hp.2.2.1
  clear hb hp hsz
  go_enter Try.func4, Try.ntmps4
  go_wp2_with fail
  refine (HR.out _).mono ?_
  rintro e w3 ⟨rfl, rfl⟩
  go_wp2_with fail
  refine (HPL.out _).mono ?_
  rintro e w4 ⟨b, rfl, hp4, hb4⟩
  have H4 := Lib.hid hp4
  rw [HSZ.out] at hb4
  have hc4 := HC.out w4 hb4
  have HB4 := Lib.hid (bmore HB.out hb4 (Nat.le_succ _))
  have q0 := hc4.cell 0 (v := .int .i64 s) rfl
  have q1 := hc4.cell 1 (v := .int .i64 k) rfl
  have q2 := hc4.cell 2 (v := .int .i64 n) rfl
  have HC4 := Lib.hid hc4
  clear hp4 hb4 hc4 c0 c1 c2 HB HC
  go_wp2_with fail
  refine (HLY.out b i w4 H4.out).mono ?_
  rintro e w5 ⟨rfl, hb5⟩
  have H5 := Lib.hid (H4.out.below hb5)
  have HC5 := Lib.hid (HC4.out.keep (Keep.none hb5) id)
  have HB5 := Lib.hid (bmore HB4.out hb5 HB4.out.size)
  clear hb5 q0 q1 q2
  by_cases hin : 0 ≤ i ∧ i < nb s k
  · obtain ⟨i', rfl⟩ := Int.eq_ofNat_of_zero_le hin.1
    have hi' : i' < nb s k := by omega
    rw [if_pos hin, Int.toNat_natCast]
    have HBY' := Lib.hid (HBY.out b i' w5 H5.out hi')
    have hs : i' * k < s := (nb_lt hk1).1 hi'
    have hm := mul_le' (i := i') (k := k) (by omega) hk2
    have e1 : (i' : Int) * (k : Int) = ((i' * k : Nat) : Int) := (Int.natCast_mul i' k).symm
    have w1 : wrap64 ((i' : Int) * (k : Int)) = ((i' * k : Nat) : Int) := by rw [e1]; unfold wrap64; omega
    have t1 : ¬ (i' : Int) < 0 := by omega
    have t2 : (i' : Int) < (nb s k : Nat) := by omega
    have hb6 : i' ≤ 1000000 := by omega
    clear e1 hin hi'
    generalize nb s k = z at *
    generalize hyy : i' * k = y at *
    clear hyy
    go_wp2_with fail
    refine HBY'.out.mono ?_
    rintro e w6 ⟨rfl, hb6'⟩
    have H6 := Lib.hid (H5.out.below hb6')
    have HC6 := Lib.hid (HC5.out.keep (Keep.none hb6') id)
    have HB6 := Lib.hid (bmore HB5.out hb6' HB5.out.size)
    clear hb6'
    go_wp2_with fail
    refine (HBL.out b w6 H6.out).mono ?_
    rintro e w7 ⟨rfl, hb7⟩
    have hc7 := HC6.out.keep (Keep.none hb7) id
    have HB7 := Lib.hid (bmore HB6.out hb7 HB6.out.size)
    have q0 := hc7.cell 0 (v := .int .i64 s) rfl
    have q1 := hc7.cell 1 (v := .int .i64 k) rfl
    have q2 := hc7.cell 2 (v := .int .i64 n) rfl
    clear hb7 hc7
    go_wp2_with fail
    refine (HRL.out i' w7 hb6).mono ?_
    rintro e w8 ⟨rfl, rfl⟩
    generalize lyr n i' = u at *
    have t3 : ((y : Int) == wrap64 ((i' : Int) * (k : Int))) = true := by rw [w1]; simp
    have t4 : (y : Int) < min ((y : Int) + (k : Int)) (s : Int) := by omega
    have t5 : (min ((y : Int) + (k : Int)) (s : Int) == min ((y : Int) + (k : Int)) (s : Int)) = true := by simp
    have t6 : ((u : Int) == (u : Int)) = true := by simp
    go_wp2_with fail
    refine (HAW.out w7).mono ?_
    rintro e w8 ⟨rfl, hb8⟩
    have HB8 := Lib.hid (bmore HB7.out hb8 HB7.out.size)
    clear hb8
    go_wp2
    go_ret
    exact ⟨rfl, HB8.out⟩
  · rw [if_neg hin]
    have HBN' := Lib.hid (HBN.out b i w5 H5.out hin)
    by_cases hi0 : 0 ≤ i
    · have t2 : ¬ i < (nb s k : Nat) := fun h => hin ⟨hi0, h⟩
      clear hin
      generalize nb s k = z at *
      go_wp2_with fail
      refine HBN'.out.mono ?_
      rintro e w6 ⟨rfl, hb6'⟩
      have H6 := Lib.hid (H5.out.below hb6')
      have HB6 := Lib.hid (bmore HB5.out hb6' HB5.out.size)
      clear hb6'
      go_wp2_with fail
      refine (HBL.out b w6 H6.out).mono ?_
      rintro e w7 ⟨rfl, hb7⟩
      have HB7 := Lib.hid (bmore HB6.out hb7 HB6.out.size)
      clear hb7
      go_wp2_with fail
      refine (HAW.out w7).mono ?_
      rintro e w8 ⟨rfl, hb8⟩
      have HB8 := Lib.hid (bmore HB7.out hb8 HB7.out.size)
      clear hb8
      go_wp2
      go_ret
      exact ⟨rfl, HB8.out⟩
    · clear hin
      generalize nb s k = z at *
      go_wp2_with fail
      refine HBN'.out.mono ?_
      rintro e w6 ⟨rfl, hb6'⟩
      have HB6 := Lib.hid (bmore HB5.out hb6' HB5.out.size)
      clear hb6'
      go_wp2_with fail
      refine (HAW.out w6).mono ?_
      rintro e w8 ⟨rfl, hb8⟩
      have HB8 := Lib.hid (bmore HB6.out hb8 HB6.out.size)
      clear hb8
      go_wp2
      go_ret
      exact ⟨rfl, HB8.out⟩
theorem stripeBlocks_any (s k n i : Int) (w : World) :
    Calls Try.prog 4 #[.agg #[.int .i64 s, .int .i64 k, .int .i64 n], .int .i64 i] w fun e w' => e = .returned (.bool true) ∧ Below w.heap.size w w' := by
  cases h : planB s k n with
  | false => exact stripeBlocks_no s k n i w h
  | true =>
    obtain ⟨s', k', n', rfl, rfl, rfl, hp⟩ := planB_ok h
    exact stripeBlocks_yes s' k' n' i w hp
end Go.Proofs.Ytoofhjhnfeamgaa
