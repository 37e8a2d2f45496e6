/- group: the law GroupCopies is walked. -/
import Derived.Test.YtbdnopimaofabaaGroupRd
import Derived.Test.YtbdnopimaofabaaAppS
namespace Go.Proofs.Ytbdnopimaofabaa
open Go.RowKit
set_option linter.unusedVariables false
set_option linter.unusedSimpArgs false

theorem held3_step {w0 w' w'' : World} {N : Nat} {v0 v1 v2 : Value} {S : Nat → Prop} (h : Keep (fun _ => False) w0 w' ∧ w'.cell? ⟨N, 0, none⟩ = some v0 ∧ w'.cell? ⟨N, 1, none⟩ = some v1 ∧ w'.cell? ⟨N, 2, none⟩ = some v2) (hN : N < w0.heap.size)
    (hk : Keep S w' w'') (hS : ∀ k, S k → w0.heap.size ≤ k) : Keep (fun _ => False) w0 w'' ∧ w''.cell? ⟨N, 0, none⟩ = some v0 ∧ w''.cell? ⟨N, 1, none⟩ = some v1 ∧ w''.cell? ⟨N, 2, none⟩ = some v2 := by
  have hlt : N < w'.heap.size := Nat.lt_of_lt_of_le hN h.1.size
  have hn : ¬ S N := fun e => by have := hS N e; omega
  exact ⟨h.1.trans hk (fun k hk' e => by have := hS k e; omega), (hk.cell (p := ⟨N, 0, none⟩) hlt hn).trans h.2.1, (hk.cell (p := ⟨N, 1, none⟩) hlt hn).trans h.2.2.1, (hk.cell (p := ⟨N, 2, none⟩) hlt hn).trans h.2.2.2⟩
theorem held3_alloc {w0 w' : World} {N : Nat} {v0 v1 v2 : Value} (h : Keep (fun _ => False) w0 w' ∧ w'.cell? ⟨N, 0, none⟩ = some v0 ∧ w'.cell? ⟨N, 1, none⟩ = some v1 ∧ w'.cell? ⟨N, 2, none⟩ = some v2) (hN : N < w0.heap.size) (o : Obj) :
    Keep (fun _ => False) w0 (w'.alloc o) ∧ (w'.alloc o).cell? ⟨N, 0, none⟩ = some v0 ∧ (w'.alloc o).cell? ⟨N, 1, none⟩ = some v1 ∧ (w'.alloc o).cell? ⟨N, 2, none⟩ = some v2 :=
  held3_step (S := fun _ => False) h hN ((Keep.refl _ w').alloc o) (fun _ h => h.elim)
theorem newAt (w : World) (o : Obj) {nb : Nat} (h : nb = w.heap.size) : (w.alloc o).heap[nb]? = some o := by subst h; exact heap_alloc_new w o
theorem madeAt (w : World) {e : TypeId} {base size nb : Nat} (h : nb = w.heap.size) (hb : base ≤ w.heap.size) : (w.alloc (.cells #[] e)).ownsRow base e size (.slice (some ⟨nb, 0, none⟩) 0 0) 0 [] := by subst h; exact World.ownsRow_made w #[] 0 hb (Nat.zero_le _) (by simp)
theorem PInv.mono {n : Nat} {j lv : Int} {l : List One} {x : List AskD} {k k' : Nat} (h : PInv n j lv l x k) (hk : k ≤ k') : PInv n j lv l x k' := ⟨h.len, h.at_, h.ok, Nat.le_trans h.xlen hk⟩

set_option maxRecDepth 100000 in
set_option maxHeartbeats 1000000 in
theorem groupCopies_no (n j lv later : Int) (A : Option Addr) (k c : Nat) (Am : Option Addr) (km cm : Nat) (w : World) (h : ¬ (CaseR n j lv k ∧ km ≤ 40 ∧ 0 ≤ later ∧ later ≤ 1000)) :
    Calls Try.prog 6 #[.agg #[.int .i64 n, .int .i64 j, .int .i64 lv, .slice A k c], .slice Am km cm, .int .i64 later] w fun e w' => e = .returned (.bool true) ∧ Below w.heap.size w w' := by
  by_cases hr : CaseR n j lv k
  · have HR := Lib.hid (fun w => right_yes n j lv A k c w hr)
    have hl : 40 < km ∨ (km ≤ 40 ∧ later < 0) ∨ (km ≤ 40 ∧ 0 ≤ later ∧ 1000 < later) := by
      by_cases h2 : km ≤ 40
      · by_cases h0 : 0 ≤ later
        · have : ¬ later ≤ 1000 := fun h1 => h ⟨hr, h2, h0, h1⟩
          exact .inr (.inr ⟨h2, h0, by omega⟩)
        · exact .inr (.inl ⟨h2, by omega⟩)
      · exact .inl (by omega)
    clear hr h
    rcases hl with h0 | ⟨h0, h1⟩ | ⟨h0, h1, h2⟩
    all_goals
      go_enter Try.func6, Try.ntmps6
      go_wp2_with fail
      refine (HR.out _).mono ?_
      rintro e w1 ⟨rfl, hb1⟩
      have q1 : Below w.heap.size w w1 := ((Below.refl _ w).alloc (Nat.le_refl _) _).trans (hb1.mono (by simp))
      clear hb1
      go_wp2_with fail
      refine (awake_any _).mono ?_
      rintro e w2 ⟨rfl, hb2⟩
      have q2 := bmore q1 hb2 q1.size
      clear q1 hb2
      go_wp2
      go_ret
      exact ⟨rfl, q2⟩
  · have HR := Lib.hid (fun w => right_no n j lv A k c w hr)
    clear hr h
    go_enter Try.func6, Try.ntmps6
    go_wp2_with fail
    refine (HR.out _).mono ?_
    rintro e w1 ⟨rfl, hb1⟩
    have q1 : Below w.heap.size w w1 := ((Below.refl _ w).alloc (Nat.le_refl _) _).trans (hb1.mono (by simp))
    clear hb1
    go_wp2_with fail
    refine (awake_any _).mono ?_
    rintro e w2 ⟨rfl, hb2⟩
    have q2 := bmore q1 hb2 q1.size
    clear q1 hb2
    go_wp2
    go_ret
    exact ⟨rfl, q2⟩

set_option maxRecDepth 100000 in
set_option maxHeartbeats 1000000 in
theorem groupCopies_yes (n : Nat) (j lv later : Int) (v : Value) (asks : List AskD) (vm : Value) (more : List AskD) (w : World) (h : Asks w v asks) (hm : Asks w vm more) (hml : more.length ≤ 40) (hc : CaseR n j lv asks.length) (hl0 : 0 ≤ later) (hl1 : later ≤ 1000) :
    Calls Try.prog 6 #[.agg #[.int .i64 n, .int .i64 j, .int .i64 lv, v], vm, .int .i64 later] w fun e w' => e = .returned (.bool true) ∧ Below w.heap.size w w' := by
  obtain ⟨A, c, rfl, -⟩ := h.val
  obtain ⟨Am, cm, rfl, -⟩ := hm.val
  obtain ⟨i0, hi, hz0, hz1, hz2⟩ := info_parts info_ask
  obtain ⟨k1, k2, k3, k4, k5, k6⟩ := hc.1
  have hlen := hc.2
  have HR := Lib.hid (fun w => right_yes n j lv A asks.length c w hc)
  have HP := Lib.hid (fun w hw => played_any n j lv (.slice A asks.length c) asks w hw hc)
  have HZ := Blk.new w #[.int .i64 (n : Int), .int .i64 j, .int .i64 lv, .slice A asks.length c] 24
  have hb0 := (Below.refl w.heap.size w).alloc (Nat.le_refl _) (.cells #[.int .i64 (n : Int), .int .i64 j, .int .i64 lv, .slice A asks.length c] 24)
  have HH0 : Asks (w.alloc (.cells #[.int .i64 (n : Int), .int .i64 j, .int .i64 lv, .slice A asks.length c] 24)) (.slice A asks.length c) asks := Reads.below h hb0
  have HB0 := Lib.hid hb0
  have HM0 : Hid (Asks (w.alloc (.cells #[.int .i64 (n : Int), .int .i64 j, .int .i64 lv, .slice A asks.length c] 24)) (.slice Am more.length cm) more) := Reads.below hm hb0
  have HA0 := Lib.hid HH0
  have HZ0 := Lib.hid HZ
  have hsz : w.heap.size < (w.alloc (.cells #[.int .i64 (n : Int), .int .i64 j, .int .i64 lv, .slice A asks.length c] 24)).heap.size := by simp
  clear h hm hb0 HH0 HZ hc
  go_enter Try.func6, Try.ntmps6
  go_wp2_with fail
  generalize w.alloc (.cells #[.int .i64 (n : Int), .int .i64 j, .int .i64 lv, .slice A asks.length c] 24) = wz at *
  refine (HR.out _).mono ?_
  rintro e w1 ⟨rfl, hb1⟩
  obtain ⟨z0, z1, z2, z3⟩ := blk4 (HZ0.out.below hb1)
  have HB1 := Lib.hid hb1
  have HA1 := Lib.hid (Reads.below HA0.out hb1)
  clear hb1
  go_wp2_with fail
  refine (HP.out _ HA1.out).mono ?_
  rintro e w2 ⟨b, g, l, Ax, cx, x, rfl, hg2, hi2, hx2, hb2, hbb, hgg⟩
  have HG2 := Lib.hid hg2
  have HI2 := Lib.hid hi2
  have HO2 := Lib.hid (ownsRow_base hx2 HB1.out.size)
  have HB2 := Lib.hid (bmore HB1.out hb2 HB1.out.size)
  have hxl : x.length ≤ 1000000 := by have := hi2.xlen; omega
  clear hg2 hi2 hx2 hb2 hbb hgg z0 z1 z2 z3
  obtain ⟨z0, z1, z2, z3⟩ := blk4 (HZ0.out.below HB2.out)
  have hln := HI2.out.len
  have HCP := Lib.hid (copy_any b g n l j lv _ HG2.out (by omega))
  clear hln
  go_wp2_with fail
  refine HCP.out.mono ?_
  rintro e w3 ⟨b3, g3, c3, rfl, hg3, hb3b, hb3g, hb3⟩
  have HC3 := Lib.hid hg3
  have HG3 := Lib.hid (HG2.out.below hb3)
  have HO3 := Lib.hid (ownsRow_keep HO2.out (Keep.none hb3) (fun _ _ => id))
  have HB3 := Lib.hid (bmore HB2.out hb3 HB2.out.size)
  have HGL := Lib.hid (show b < w2.heap.size ∧ g < w2.heap.size from ⟨HG2.out.str.lt, HG2.out.ltg⟩)
  have hs3 := HB2.out.size
  clear hg3 hb3 z0 z1 z2 z3
  obtain ⟨z0, z1, z2, z3⟩ := blk4 (HZ0.out.below HB3.out)
  go_wp2_with fail
  clear z0 z1 z2 z3
  go_loopw [10, 12, 13, 50] (fun yv _ _ i wr => ∃ (k : Nat) (l2 : List One) (y : List AskD) (A : Option Addr) (cc : Nat), k ≤ more.length ∧ i = .int .i64 k ∧ yv = .slice A y.length cc ∧ Hid (GrpAt wr b3 g3 c3 l2 j lv) ∧ Hid (PInv n j lv l2 y (60 + k)) ∧ Hid (wr.ownsRow wz.heap.size 47 3 (.slice A y.length cc) y.length (y.flatMap askCells)) ∧ Hid (Keep (fun q => q = g3) w3 wr)) (fun _ _ _ i _ => more.length - (intOf i).toNat)
  case atStart => exact ⟨0, l, x, Ax, cx, by omega, rfl, rfl, HC3, HI2.out.mono (by omega), HO3, Keep.refl _ _⟩
  case round =>
    obtain ⟨k, l2, y, Ay, cy, hk, rfl, rfl, HC, HI, HO, HK⟩ := hrel
    have HQ := Lib.hid (bkeep HB3.out HK.out (Nat.le_refl _) (fun q hq => by subst hq; omega))
    have hyl := HI.out.xlen
    by_cases hlt : k < more.length
    · have ha := List.getElem?_eq_getElem hlt
      obtain ⟨a, hae⟩ : ∃ a, a = more[k] := ⟨_, rfl⟩
      rw [← hae] at ha
      obtain ⟨ga, p, c', he, a0, a1, a2⟩ := Asks.at (Reads.below HM0.out HQ.out) ha
      cases he
      obtain ⟨z0, z1, z2, z3⟩ := blk4 (HZ0.out.below HQ.out)
      have hs := HQ.out.size
      have hlw : w.heap.size < wr.heap.size := by omega
      have hnw : ¬ (w.heap.size = wr.heap.size) := by omega
      have hnw2 : ¬ (wr.heap.size = w.heap.size) := by omega
      have i1 : (0 : Int) ≤ (k : Int) := by omega
      have i2 : (k : Int) < (more.length : Int) := by omega
      clear ha hae
      have HhA1 : Hid (Asks (wr.alloc (.cells #[.int .i64 a.r, .int .i64 a.level, .int .i64 a.now] 47)) (.slice Ay y.length cy) y) := Reads.alloc (Reads.of_owns HO.out) _
      have HhX1 := Lib.hid (HO.out.alloc (.cells #[.int .i64 a.r, .int .i64 a.level, .int .i64 a.now] 47))
      have HhG1 : Hid (GrpAt (wr.alloc (.cells #[.int .i64 a.r, .int .i64 a.level, .int .i64 a.now] 47)) b3 g3 c3 l2 j lv) := HC.out.keep ((Keep.refl (fun _ => False) _).alloc _) id id
      have HhN := Lib.hid (Blk.new wr #[.int .i64 a.r, .int .i64 a.level, .int .i64 a.now] 47)
      have HhK := Lib.hid (HK.out.alloc (.cells #[.int .i64 a.r, .int .i64 a.level, .int .i64 a.now] 47))
      have hsN : wr.heap.size < (wr.alloc (.cells #[.int .i64 a.r, .int .i64 a.level, .int .i64 a.now] 47)).heap.size := by simp
      go_wp2_with fail
      refine (wrong_any j lv _ y n a _ HhA1.out (by omega)).mono ?_
      rintro e w5 ⟨rfl, hb5⟩
      have HN5 := Lib.hid (HhN.out.below hb5)
      have HX5 := Lib.hid (ownsRow_keep HhX1.out (Keep.none hb5) (fun _ _ => id))
      have HG5 := Lib.hid (HhG1.out.below hb5)
      have HK5 := Lib.hid (HhK.out.trans (Keep.none hb5) (fun _ _ h => h.elim))
      have hs5 := hb5.size
      clear z0 z1 z2 z3 a0 a1 a2 HhN HhX1 HhG1 HhK HhA1 hb5 hnw hnw2
      obtain ⟨e0, e1, e2⟩ := blk3 HN5.out
      unfold wrongN
      obtain ⟨ar, al, an⟩ := a
      by_cases hok : AskOk n ar al an
      · rw [if_pos hok]
        obtain ⟨q0, q1, q2, q3, q4, q5⟩ := hok
        obtain ⟨r, rfl⟩ : ∃ r : Nat, ar = r := ⟨ar.toNat, by omega⟩
        have hr := HI.out.at_ r (by omega)
        have hok' : AskOk l2.length r al an := by rw [HI.out.len]; exact ⟨q0, q1, q2, q3, q4, q5⟩
        by_cases hst : an < (rfold j lv r y).asked
        · rw [if_pos hst]
          have HAK := Lib.hid (ask_stale b3 g3 c3 l2 j lv al an r _ _ HG5.out hr hok' hst)
          clear hst hok' hr
          go_wp2_with fail
          refine HAK.out.mono ?_
          rintro e w6 ⟨rfl, rfl⟩
          go_wp2
          go_roundw
          case rel => exact ⟨k + 1, l2, y, Ay, cy, by omega, by go_num, rfl, HG5, HI.out.mono (by omega), HX5, HK5⟩
          case measure => simp [intOf]; omega
        · rw [if_neg hst]
          have HAK := Lib.hid (ask_yes b3 g3 c3 l2 j lv al an r _ _ HG5.out hr hok' (by omega) ⟨k3, k4, k5, k6⟩)
          have HI2' := Lib.hid ((HI.out.take r al an (by omega) ⟨q4, q5⟩).mono (show 60 + k + 1 ≤ 60 + (k + 1) by omega))
          clear hst hok' hr
          generalize l2.set r (stp j lv (rfold j lv r y) al an) = l4 at *
          go_wp2_with fail
          refine HAK.out.mono ?_
          rintro e w6 ⟨rfl, hg6, k6'⟩
          have HG6 := Lib.hid hg6
          have HX6 := Lib.hid (ownsRow_keep HX5.out k6' (fun g' hg' => (HG5.out.neAsk HX5.out hg').2))
          have HN6 := Lib.hid (HN5.out.keep k6' (by have := HC.out.ltg; simp at hsN; omega))
          have HK6 := Lib.hid (HK5.out.trans k6' (fun _ _ h => h))
          have hs6 := k6'.size
          have hw6 : wr.heap.size < w6.heap.size := by omega
          have hwz6 : wz.heap.size ≤ w6.heap.size := by omega
          clear hg6 k6' e0 e1 e2
          obtain ⟨e0, e1, e2⟩ := blk3 HN6.out
          have h0 : Keep (fun _ => False) w6.drew w6.drew ∧ w6.drew.cell? ⟨wr.heap.size, 0, none⟩ = some (.int .i64 (r : Int)) ∧ w6.drew.cell? ⟨wr.heap.size, 1, none⟩ = some (.int .i64 al) ∧ w6.drew.cell? ⟨wr.heap.size, 2, none⟩ = some (.int .i64 an) := ⟨Keep.refl _ _, e0, e1, e2⟩
          have hNd : wr.heap.size < w6.drew.heap.size := hw6
          have HRY : Hid (Reads w6.drew 3 (.slice Ay y.length cy) y.length (y.flatMap askCells)) := (Reads.of_owns HX6.out).drewN 1
          have hy1 : ∀ u ∈ y.flatMap askCells, u.oneCell' = true := by
            intro u hu
            obtain ⟨o, -, hu⟩ := List.mem_flatMap.1 hu
            simp [askCells] at hu
            rcases hu with rfl | rfl | rfl <;> rfl
          have HY1 := Lib.hid hy1
          clear hy1
          go_wp2_with fail
          go_region_held3 (fun w' => Keep (fun _ => False) w6.drew w' ∧ w'.cell? ⟨wr.heap.size, 0, none⟩ = some (.int .i64 (r : Int)) ∧ w'.cell? ⟨wr.heap.size, 1, none⟩ = some (.int .i64 al) ∧ w'.cell? ⟨wr.heap.size, 2, none⟩ = some (.int .i64 an))
            (first | assumption | exact h7 | exact h8 | exact held3_alloc (by assumption) hNd _)
            (first
              | (refine step_appR rfl _ _ 22 rfl w6.drew.heap.size 47 i0 (.agg #[.int .i64 0, .int .i64 0, .int .i64 0]) 3 24 Try.underlying22 hi hz0 hz1 hz2 rfl _ 0 [] rfl (by first | exact World.ownsRow_made _ #[] 0 (Nat.le_refl _) (Nat.zero_le _) rfl | exact madeAt _ (by simp) (by first | exact Nat.le_refl _ | (simp; done)) | exact (World.ownsRow_made _ #[] 0 (Nat.le_refl _) (Nat.zero_le _) rfl).alloc _) _ y.length _ rfl (HRY.out.keep (‹Keep (fun _ => False) w6.drew _ ∧ _›.1) (fun _ _ _ => id)) HY1.out (by unfold maxLen; omega) (by omega) (by first | (simp; done) | (simp; omega)) ?_; rintro A7 c7 w7 hown7 hk7 hg7 -; change Keep (fun k => some _ = some k) _ w7 at hk7; rw [Nat.zero_add, List.nil_append] at hown7; rw [Nat.zero_add]; have h7 := held3_step (by assumption) hNd hk7 (by intro q hq; cases hq; first | exact Nat.le_refl _ | (simp; done)); have HO7 := Lib.hid hown7; have HK7 := Lib.hid hk7; clear hown7 hk7 hg7)
              | (refine step_app1 rfl _ _ 22 rfl w6.drew.heap.size 47 i0 (.agg #[.int .i64 0, .int .i64 0, .int .i64 0]) 3 24 Try.underlying22 hi hz0 hz1 hz2 rfl (.slice A7 y.length c7) y.length (y.flatMap askCells) rfl (by first | exact HO7.out | exact HO7.out.alloc _) _ #[.int .i64 (r : Int), .int .i64 al, .int .i64 an] (0, 0) 1 rfl (by first | exact heap_alloc_new w7 _ | exact (HK7.out.block _ (by first | (simp; done) | (simp; omega)) (by first | (simp; done) | (simp; omega))).trans (newAt _ _ (by simp)) | exact (HK7.out.block _ (by first | (simp; done) | (simp; omega)) (by first | (simp; done) | (simp; omega))).trans ((newAt w6 _ rfl : (w6.alloc _).heap[_]? = _) |> fun h => (Below.heap_alloc _ _ _ (by simp)).trans h)) rfl (by intro u hu; simp at hu; rcases hu with rfl | rfl | rfl <;> rfl) (by omega) (by omega) (Nat.le_trans (‹Keep (fun _ => False) w6.drew _ ∧ _›.1).size (Nat.le_refl _)) ?_; rintro A8 c8 w8 hown8 hk8 -; have h8 := held3_step (by assumption) hNd hk8 (by intro q hq; exact (HO7.out.lt q hq).1); have HO8 := Lib.hid hown8; clear hown8 hk8))
          all_goals
            have HX8 : Hid (w8.ownsRow wz.heap.size 47 3 (.slice A8 (y ++ [(⟨r, al, an⟩ : AskD)]).length c8) (y ++ [(⟨r, al, an⟩ : AskD)]).length ((y ++ [(⟨r, al, an⟩ : AskD)]).flatMap askCells)) := by
              show World.ownsRow ..
              rw [List.length_append, List.flatMap_append]
              exact ownsRow_base HO8.out hwz6
            have HL8 : Hid (y.length + 1 = (y ++ [(⟨r, al, an⟩ : AskD)]).length) := by show _ = _; rw [List.length_append]; rfl
            have HKd : Hid (Keep (fun _ => False) w6.drew w8) := h8.1
            have HW8 : Hid (Keep (fun _ => False) w6 w8) := ⟨HKd.out.os, HKd.out.tape, HKd.out.output, HKd.out.size, HKd.out.block⟩
            have HG8 := Lib.hid (HG6.out.keep HW8.out id id)
            have HK8 := Lib.hid (HK6.out.trans HW8.out (fun _ _ h => h.elim))
            clear h0 h7 h8 hNd
            go_wp2
            go_roundw
            case rel => exact ⟨k + 1, l4, y ++ [⟨r, al, an⟩], A8, c8, by omega, by go_num, by rw [HL8.out], HG8, HI2', HX8, HK8⟩
            case measure => simp [intOf]; omega
      · rw [if_neg hok]
        have HAK := Lib.hid (ask_range b3 g3 c3 l2 j lv ar al an _ HG5.out (by rw [HI.out.len]; exact hok))
        clear hok
        go_wp2_with fail
        refine HAK.out.mono ?_
        rintro e w6 ⟨rfl, rfl⟩
        go_wp2
        go_roundw
        case rel => exact ⟨k + 1, l2, y, Ay, cy, by omega, by go_num, rfl, HG5, HI.out.mono (by omega), HX5, HK5⟩
        case measure => simp [intOf]; omega
    · obtain rfl : k = more.length := by omega
      have HGo : Hid (GrpAt wr b g n l j lv) := HG3.out.keep HK.out (by have := HGL.out.1; omega) (by have := HGL.out.2; omega)
      have HXo : Hid (Asks wr (.slice Ax x.length cx) x) := Reads.of_owns (ownsRow_keep HO3.out HK.out (fun g' hg' e => by subst e; exact (HC3.out.neAsk HO3.out hg').2 rfl))
      obtain ⟨z0, z1, z2, z3⟩ := blk4 (HZ0.out.below HQ.out)
      have hs := HQ.out.size
      obtain ⟨w4, rfl⟩ : ∃ w4 : World, w4 = wr := ⟨_, rfl⟩
      go_wp2_with fail
      clear z0 z1 z2 z3
      go_loopw [14, 15, 16, 17, 18, 80] (fun _ _ _ _ _ i wr => ∃ r : Nat, r ≤ n ∧ i = .int .i64 r ∧ Hid (Below w4.heap.size w4 wr)) (fun _ _ _ _ _ i _ => n - (intOf i).toNat)
      case atStart => exact ⟨0, by omega, rfl, Below.refl _ _⟩
      case round =>
        obtain ⟨r, hr, rfl, hb⟩ := hrel
        have HG := Lib.hid (HGo.out.below hb.out)
        have HX : Hid (Asks wr (.slice Ax x.length cx) x) := Reads.below HXo.out hb.out
        have HQr := Lib.hid (bmore HQ.out hb.out HQ.out.size)
        obtain ⟨z0, z1, z2, z3⟩ := blk4 (HZ0.out.below HQr.out)
        by_cases hlt : r < n
        · obtain ⟨s, hs⟩ : ∃ s, s = rfold j lv r x := ⟨_, rfl⟩
          have hrr := HI2.out.at_ r hlt
          have hla := last_any j lv _ x r _ HX.out hxl
          have hrl := fun w hw => rlevel_any j lv (.slice Ax x.length cx) x r (s.asked + later) w hw hxl HI2.out.ok ⟨k3, k4, k5, k6⟩
          have hbd := rfold_bd j lv ⟨k3, k4, k5, k6⟩ r x HI2.out.ok
          rw [← hs] at hrr hla hrl hbd
          obtain ⟨s0, s1, s2⟩ := hbd
          have HRK := Lib.hid hrr
          have HLA := Lib.hid hla
          have HRL := Lib.hid hrl
          have i1 : (0 : Int) ≤ (r : Int) := by omega
          have i2 : (r : Int) < (n : Int) := by omega
          clear hs hrr hla hrl
          go_wp2_with fail
          refine HLA.out.mono ?_
          rintro e w5 ⟨rfl, rfl⟩
          have HLV := Lib.hid (level_yes b g n l j lv r s (s.asked + later) _ HG.out HRK.out)
          obtain ⟨a, ha⟩ : ∃ a, a = s.at (s.asked + later) := ⟨_, rfl⟩
          rw [← ha] at HLV HRL
          clear ha
          go_wp2_with fail
          refine HLV.out.mono ?_
          rintro e w5 ⟨rfl, hb5⟩
          have HX5 : Hid (Asks w5 (.slice Ax x.length cx) x) := Reads.below HX.out hb5
          have HQ5 := Lib.hid (bmore HQr.out hb5 HQr.out.size)
          have HW5 := Lib.hid (bmore hb.out hb5 (Hid.out hb).size)
          clear hb5 z0 z1 z2 z3
          obtain ⟨z0, z1, z2, z3⟩ := blk4 (HZ0.out.below HQ5.out)
          go_wp2_with fail
          refine (HRL.out _ HX5.out).mono ?_
          rintro e w6 ⟨rfl, hb6⟩
          have HW6 := Lib.hid (bmore HW5.out hb6 HW5.out.size)
          have t1 : (a != a) = false := by simp
          clear hb6
          go_wp2
          go_roundw
          case rel => exact ⟨r + 1, by omega, by go_num, HW6⟩
          case measure => simp [intOf]; omega
        · obtain rfl : r = n := by omega
          go_wp2_with fail
          refine (awake_any _).mono ?_
          rintro e w6 ⟨rfl, hb6⟩
          have HB6 := Lib.hid (bmore HQr.out hb6 HQr.out.size)
          clear hb6
          go_wp2
          go_ret
          exact ⟨rfl, HB0.out.trans (HB6.out.mono (by omega))⟩
theorem groupCopies_any (n j lv later : Int) (v vm : Value) (asks more : List AskD) (w : World) (h : Asks w v asks) (hm : Asks w vm more) :
    Calls Try.prog 6 #[.agg #[.int .i64 n, .int .i64 j, .int .i64 lv, v], vm, .int .i64 later] w fun e w' => e = .returned (.bool true) ∧ Below w.heap.size w w' := by
  by_cases hc : CaseR n j lv asks.length ∧ more.length ≤ 40 ∧ 0 ≤ later ∧ later ≤ 1000
  · obtain ⟨m, rfl⟩ : ∃ m : Nat, n = m := ⟨n.toNat, by have := hc.1.1.1; omega⟩
    exact groupCopies_yes m j lv later v asks vm more w h hm hc.2.1 hc.1 hc.2.2.1 hc.2.2.2
  · obtain ⟨A, c, rfl, -⟩ := h.val
    obtain ⟨Am, cm, rfl, -⟩ := hm.val
    exact groupCopies_no n j lv later A asks.length c Am more.length cm w hc
end Go.Proofs.Ytbdnopimaofabaa
