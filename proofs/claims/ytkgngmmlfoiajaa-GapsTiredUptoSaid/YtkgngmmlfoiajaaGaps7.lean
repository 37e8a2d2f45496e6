/- gaps: Ask as a whole; pairs; awake. -/
import Derived.Test.YtkgngmmlfoiajaaGaps6
import Derived.Test.YtkgngmmlfoiajaaPairEq
namespace Go.Proofs.Ytkgngmmlfoiajaa
open Go.RowKit
set_option linter.unusedVariables false
set_option linter.unusedSimpArgs false

theorem ask_any (K b : Nat) (v : Value) (l : List Hole) (f lg now most : Int) (w : World) (h : GpAt w b v l f lg) (hr : Rl K l) (hK : K ≤ 100000) (hn : l.length ≤ 100000) (hlg1 : 1 ≤ lg) (hlg2 : lg ≤ 1048576) :
    Calls Try.prog 10 #[.pointer (some ⟨b, 0, none⟩), .int .i64 now, .int .i64 most] w fun e w' => ∃ A c, e = .returned (.slice A (askL now most lg l).2.length c) ∧ GpAt w' b v (askL now most lg l).1 f lg ∧
      w'.ownsRow w.heap.size 36 2 (.slice A (askL now most lg l).2.length c) (askL now most lg l).2.length ((askL now most lg l).2.flatMap pairCells) ∧ Keep (fun k => v.ownBlock = some k) w w' := by
  unfold askL
  cases ht : inT now with
  | true =>
    refine (ask_yes K b v l f lg now most w h hr hK hn ht hlg1 hlg2).mono ?_
    rintro e w' ⟨o, rfl, h1, h2, h3⟩
    obtain ⟨A, c, rfl⟩ := ownsRow_slice h2
    exact ⟨A, c, rfl, h1, h2, h3⟩
  | false =>
    refine (ask_no b v l f lg now most w h hn ht).mono ?_
    rintro e w' ⟨rfl, rfl⟩
    exact ⟨none, 0, rfl, h, World.ownsRow_nil _ _ _ _, Keep.refl _ _⟩

theorem Reads.pair {w : World} {v : Value} {n : Nat} {l : List (Int × Int)} (h : Reads w 2 v n (l.flatMap pairCells)) {k : Nat} {x : Int × Int} (hx : l[k]? = some x) : ∃ g o c, v = .slice (some ⟨g, o, none⟩) n c ∧ w.cell? ⟨g, o + k * 2, none⟩ = some (.int .i64 x.1) ∧ w.cell? ⟨g, o + k * 2 + 1, none⟩ = some (.int .i64 x.2) := by
  obtain ⟨g, p, c, he, hc⟩ := Reads.elem h pairCells_len (by omega) hx
  exact ⟨g, p, c, he, hc 0 _ rfl, hc 1 _ rfl⟩

set_option maxRecDepth 100000 in
set_option maxHeartbeats 1000000 in
theorem pairs_yes (A B : Option Addr) (c d n : Nat) (x : List (Int × Int)) (w : World) (hx : Reads w 2 (.slice A n c) n (x.flatMap pairCells)) (hy : Reads w 2 (.slice B n d) n (x.flatMap pairCells)) (hn : n ≤ 1000000) (hl : n = x.length) :
    Calls Try.prog 11 #[.slice A n c, .slice B n d] w fun e w' => e = .returned (.bool true) ∧ ∃ n, w' = w.drewN n := by
  have HX := Lib.hid hx
  have HY := Lib.hid hy
  have HL := Lib.hid hl
  clear hx hy hl
  have pe := pair_eq
  go_enter Try.func11, Try.ntmps11
  go_wp2
  go_loopw [5, 13] (fun _ i wr => ∃ k m : Nat, k ≤ n ∧ i = .int .i64 k ∧ Hid (wr = w.drewN m)) (fun _ i _ => n - (intOf i).toNat)
  case atStart => exact ⟨0, 0, by omega, rfl, rfl⟩
  case round =>
    obtain ⟨k, m, hk, rfl, HW⟩ := hrel
    by_cases hlt : k < n
    · obtain ⟨a, ha⟩ : ∃ a, x[k]? = some a := ⟨_, List.getElem?_eq_getElem (by rw [← HL.out]; exact hlt)⟩
      obtain ⟨g1, p1, c1, he1, a0, a1⟩ := (HX.out.drewN m).pair ha
      obtain ⟨g2, p2, c2, he2, b0, b1⟩ := (HY.out.drewN m).pair ha
      rw [← HW.out] at a0 a1 b0 b1
      cases he1
      cases he2
      have i1 : (0 : Int) ≤ (k : Int) := by omega
      have i2 : (k : Int) < (n : Int) := by omega
      have t1 : (a.1 == a.1) = true := by simp
      have t2 : (a.2 == a.2) = true := by simp
      clear ha
      go_wp2_with fail
      go_quiet (fail)
      go_wp2
      go_roundw
      case rel => exact ⟨k + 1, m + nq, by omega, by go_num, Lib.hid (by rw [HW.out]; simp [World.drewN, Nat.add_assoc])⟩
      case measure => simp [intOf]; omega
    · obtain rfl : k = n := by omega
      go_wp2
      go_ret
      exact ⟨rfl, m, HW.out⟩

theorem rl_miss (w : World) : Rl 3 (missN [] 3 5 4 3).1 := (missN_rl (rl_nil 3) (by decide) (by decide) (by decide) (by decide) (by decide) (by decide)).1
set_option maxRecDepth 100000 in
set_option maxHeartbeats 4000000 in
theorem awake_any (w : World) : Calls Try.prog 6 #[] w fun e w' => e = .returned (.bool true) ∧ Below w.heap.size w w' := by
  have HNW := Lib.hid (new_ok 4 10 w (by decide) (by decide) (by decide) (by decide))
  have HNN := Lib.hid (fun w => new_no 0 1 w (by decide))
  have HMS := Lib.hid @miss_ok
  have HAK := Lib.hid @ask_any
  have HGT := Lib.hid @got_any
  have HLN := Lib.hid @len_any
  go_enter Try.func6, Try.ntmps6
  go_wp2_with fail
  refine HNW.out.mono ?_
  rintro e w1 ⟨rfl, h0, hb1⟩
  have H0 := Lib.hid h0
  have HB1 := Lib.hid hb1
  clear h0 hb1
  go_wp2_with fail
  refine (HMS.out 3 _ _ _ 4 10 3 6 5 w1 H0.out (rl_nil 3) (by decide) (by decide) (by decide) (by decide) (by decide) (by decide) (by decide)).mono ?_
  rintro e w2 ⟨rfl, ⟨v2, h2, ho2, hk2⟩⟩
  have r2 := rl_miss w
  have e2 : (missN [] 3 5 4 (6 - 3 : Int).toNat) = ([⟨3, 5, 4, 0⟩, ⟨4, 5, 4, 0⟩, ⟨5, 5, 4, 0⟩], 3) := by rfl
  have e2' : (missN [] 3 5 4 3) = ([⟨3, 5, 4, 0⟩, ⟨4, 5, 4, 0⟩, ⟨5, 5, 4, 0⟩], 3) := by rfl
  rw [e2'] at r2
  rw [e2] at h2 ⊢
  have HB2 := Lib.hid (bkeep HB1.out hk2 (Nat.le_refl _) (fun k hk => hk.elim (fun e => by omega) (fun h => by cases h)))
  have HO2 := Lib.hid (fun g hg => (ho2 g hg).elim (fun h => by cases h) (fun h => Nat.le_trans HB1.out.size h))
  have H2 := Lib.hid h2
  have R2 := Lib.hid r2
  clear h2 r2 ho2 hk2 e2 e2'
  go_wp2_with fail
  have hq := HAK.out 3 _ v2 _ 4 10 5 9 w2 H2.out R2.out (by decide) (by decide) (by decide) (by decide)
  have e3 : askL 5 9 10 [⟨3, 5, 4, 0⟩, ⟨4, 5, 4, 0⟩, ⟨5, 5, 4, 0⟩] = ([⟨3, 9, 8, 1⟩, ⟨4, 9, 8, 1⟩, ⟨5, 9, 8, 1⟩], [(3, 6)]) := by rfl
  have r3 := askL_rl (now := 5) (most := 9) (lg := 10) R2.out (by decide) (by decide)
  rw [e3] at hq r3
  refine hq.mono ?_
  rintro e w3 ⟨A3, c3, rfl, h3, hr3, hk3⟩
  have HB3 := Lib.hid (bkeep HB2.out hk3 (Nat.le_refl _) HO2.out)
  have H3 := Lib.hid h3
  have R3 := Lib.hid r3
  have HR3 := Lib.hid hr3
  obtain ⟨g3, p3, c3', he3, a0, a1⟩ := (Reads.of_owns hr3).pair (k := 0) (x := (3, 6)) rfl
  cases he3
  simp only [Nat.zero_mul, Nat.add_zero] at a0 a1
  have pe := pair_eq
  clear e3 hq r3 h3 hr3 hk3
  go_wp2_with fail
  refine (HNN.out _).mono ?_
  rintro e w4 ⟨rfl, rfl⟩
  go_wp2_with fail
  clear a0 a1 pe
  have hq := HAK.out 4 _ v2 _ 4 10 8 9 w3 H3.out R3.out (by decide) (by decide) (by decide) (by decide)
  have e4 : askL 8 9 10 [⟨3, 9, 8, 1⟩, ⟨4, 9, 8, 1⟩, ⟨5, 9, 8, 1⟩] = ([⟨3, 9, 8, 1⟩, ⟨4, 9, 8, 1⟩, ⟨5, 9, 8, 1⟩], []) := by rfl
  rw [e4] at hq
  refine hq.mono ?_
  rintro e w4 ⟨A4, c4, rfl, h4, -, hk4⟩
  have HB4 := Lib.hid (bkeep HB3.out hk4 (Nat.le_refl _) HO2.out)
  have H4 := Lib.hid h4
  clear e4 hq h4 hk4
  go_wp2_with fail
  have hq := HAK.out 4 _ v2 _ 4 10 9 9 w4 H4.out R3.out (by decide) (by decide) (by decide) (by decide)
  have e5 : askL 9 9 10 [⟨3, 9, 8, 1⟩, ⟨4, 9, 8, 1⟩, ⟨5, 9, 8, 1⟩] = ([⟨3, 17, 10, 2⟩, ⟨4, 17, 10, 2⟩, ⟨5, 17, 10, 2⟩], [(3, 6)]) := by rfl
  have r5 := askL_rl (now := 9) (most := 9) (lg := 10) R3.out (by decide) (by decide)
  rw [e5] at hq r5
  refine hq.mono ?_
  rintro e w5 ⟨A5, c5, rfl, h5, -, hk5⟩
  have HB5 := Lib.hid (bkeep HB4.out hk5 (Nat.le_refl _) HO2.out)
  have H5 := Lib.hid h5
  have R5 := Lib.hid r5
  clear e5 hq r5 h5 hk5
  go_wp2_with fail
  have hq := HGT.out _ v2 _ 4 10 4 w5 H5.out R5.out.ris (by decide)
  have e6 : has [⟨3, 17, 10, 2⟩, ⟨4, 17, 10, 2⟩, ⟨5, 17, 10, 2⟩] 4 = true := by rfl
  have e6' : drp [⟨3, 17, 10, 2⟩, ⟨4, 17, 10, 2⟩, ⟨5, 17, 10, 2⟩] 4 = [⟨3, 17, 10, 2⟩, ⟨5, 17, 10, 2⟩] := by rfl
  rw [e6, e6'] at hq
  refine hq.mono ?_
  rintro e w6 ⟨rfl, v6, h6, ho6, hk6⟩
  have HB6 := Lib.hid (bkeep HB5.out hk6 (Nat.le_refl _) (fun k hk => hk.elim (fun e => by omega) (HO2.out k)))
  have H6 := Lib.hid h6
  clear e6 e6' hq h6 hk6 ho6
  go_wp2_with fail
  refine (HLN.out _ v6 _ 4 10 w6 H6.out).mono ?_
  rintro e w7 ⟨rfl, rfl⟩
  go_wp2
  go_ret
  exact ⟨rfl, HB6.out⟩
end Go.Proofs.Ytkgngmmlfoiajaa
