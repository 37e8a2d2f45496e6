/- ranges: Cut. -/
import Derived.Test.YthjlbbbkghigfaaRanges10
import Derived.Test.YthjlbbbkghigfaaApp2
namespace Go.Proofs.Ythjlbbbkghigfaa
open Go.RowKit
set_option linter.unusedVariables false
set_option linter.unusedSimpArgs false

theorem LayR.cut {w w0 w' : World} {e : Ending} {b : Nat} {v : Value} {l left : List (Int × Int)} {a c : Int} {p q : Nat} (h : LayR w w' e b v (rep l p q left) (tot l) (tot (rep l p q left))) (hb : Below w0.heap.size w0 w) (hI : CutI l a c p q left) (hg : Good (-1) l) (hac : a < c) (hp : Parts l a p) (hr : rightB a c = true) (hend : ∀ x, l[q]? = some x → c ≤ x.1) :
    ∃ T : Int, e = .returned (.int .i64 T) ∧ Hid (IntKind.i64.wrap (-T) = -T) ∧ Hid (CutR w0 w' (.returned (.tuple #[.int .i64 (-T), .int .i64 0])) b v l a c) := by
  obtain ⟨v', rfl, hs, hv, hk⟩ := h
  rw [hI.done hg hac hp hend] at hs ⊢
  have hgc : Good (-1) (cutL a c l) := good_cut hac hg
  refine ⟨_, rfl, ?_, v', _, ⟨hgc, fun n => by rw [cov_cut (by omega), hr, Bool.true_and]⟩, by rw [hr, Int.neg_sub]; rfl, hs, fun g hg => (hv g hg).imp id (fun h => Nat.le_trans hb.size h), ((Keep.none hb).mono (fun _ _ h => h.elim)).trans hk (fun _ _ h => h)⟩
  obtain ⟨t1, t2⟩ := good_sub hg 0 l.length
  obtain ⟨t3, t4⟩ := good_sub hgc 0 (cutL a c l).length
  rw [List.take_length, List.drop_zero] at t1 t2 t3 t4
  exact IntWalk.i64_in _ (by omega)
theorem wrap_neg0 : IntKind.i64.wrap (-0) = 0 := rfl

theorem own_lt {w : World} {base size n : Nat} {e : TypeId} {v : Value} {xs : List Value} (h : w.ownsRow base e size v n xs) {k : Nat} (hk : v.ownBlock = some k) : base ≤ k ∧ k < w.heap.size := by
  rcases h.2 with ⟨hv0, hz⟩ | ⟨g, cap, cur, hv0, hgb, hh, -⟩
  · subst hv0; cases hk
  · subst hv0; cases hk; exact ⟨hgb, Blk.lt hh⟩
theorem held_cells {w0 w' : World} {A B C : Addr} {u v x : Value} (h : Keep (fun _ => False) w0 w' ∧ w'.cell? A = some u ∧ w'.cell? B = some v ∧ w'.cell? C = some x) (hA : A.block < w0.heap.size) (hB : B.block < w0.heap.size) (hC : C.block < w0.heap.size) (o : Obj) :
    Keep (fun _ => False) w0 (w'.alloc o) ∧ (w'.alloc o).cell? A = some u ∧ (w'.alloc o).cell? B = some v ∧ (w'.alloc o).cell? C = some x := by
  have hs := h.1.size
  have hk := (Keep.refl (fun _ => False) w').alloc o
  exact ⟨h.1.trans hk (fun _ _ h => h), (hk.cell (p := A) (by omega) id).trans h.2.1, (hk.cell (p := B) (by omega) id).trans h.2.2.1, (hk.cell (p := C) (by omega) id).trans h.2.2.2⟩

set_option maxRecDepth 100000 in
set_option maxHeartbeats 4000000 in
theorem cut_any (b : Nat) (v : Value) (l : List (Int × Int)) (a c : Int) (w : World) (h : SetAt w b v l (tot l)) (hg : Good (-1) l) :
    Calls Try.prog 34 #[.pointer (some ⟨b, 0, none⟩), .int .i64 a, .int .i64 c] w fun e w' => CutR w w' e b v l a c := by
  have HR := Lib.hid (right_any a c)
  cases hr : rightB a c with
  | false =>
    have HS := Lib.hid (CutR.same (e := .returned (.tuple #[.int .i64 0, .int .i64 11])) (a := a) (c := c) h hg (fun e => by rw [hr] at e; cases e) (by rw [hr]; rfl))
    rw [hr] at HR
    clear h hg hr
    go_enter Try.func34, Try.ntmps34
    go_wp2_with fail
    refine (HR.out _).mono ?_
    rintro e w1 ⟨rfl, rfl⟩
    go_wp2
    go_ret2
    exact HS.out
  | true =>
    obtain ⟨r0, r1, r2⟩ := rightB_iff.1 hr
    by_cases hac : a = c
    · subst hac
      have HS := Lib.hid (CutR.same (e := .returned (.tuple #[.int .i64 0, .int .i64 0])) (a := a) (c := a) h hg (fun e => Int.le_refl _) (by rw [hr]; rfl))
      rw [hr] at HR
      clear h hg hr
      go_enter Try.func34, Try.ntmps34
      go_wp2_with fail
      refine (HR.out _).mono ?_
      rintro e w1 ⟨rfl, rfl⟩
      go_wp2
      go_ret2
      exact HS.out
    · have hlt : a < c := by omega
      have hln := hg.len'
      have HF := Lib.hid (from_any b v l (tot l) a w h hg (by omega) (by omega))
      have HRT := Lib.hid hr
      rw [hr] at HR
      have HG := Lib.hid hg
      have H := Lib.hid h
      have HB0 := Lib.hid h.str.lt
      have HV0 := Lib.hid (fun g (hgg : v.ownBlock = some g) => (h.ne hgg).2)
      obtain ⟨s, k, rfl⟩ := h.slice
      obtain ⟨n, hnn⟩ : ∃ n, n = l.length := ⟨_, rfl⟩
      have HN := Lib.hid hnn
      obtain ⟨i0, hi, hz0, hz1, hz2⟩ := info_parts info_pair
      have HI0 := Lib.hid hi
      have HZ0 := Lib.hid hz0
      have HZ1 := Lib.hid hz1
      have HZ2 := Lib.hid hz2
      rw [← hnn] at hln H
      clear h hg hr hnn hi hz0 hz1 hz2
      go_enter Try.func34, Try.ntmps34
      go_wp2_with fail
      refine (HR.out _).mono ?_
      rintro e w1 ⟨rfl, rfl⟩
      go_wp2_with fail
      refine HF.out.mono ?_
      rintro e w1 ⟨p, hp, HP, rfl, hb1⟩
      have HB1 := Lib.hid hb1
      clear hb1
      go_wp2_with fail
      go_loopw [9, 10] (fun i s wr => ∃ (q : Nat) (left : List (Int × Int)) (A : Option Addr) (nc : Nat), q ≤ n ∧ i = .int .i64 q ∧ s = .slice A left.length nc ∧ Hid (CutI l a c p q left) ∧ Hid (wr.ownsRow w.heap.size 46 2 (.slice A left.length nc) left.length (left.flatMap pairCells)) ∧ Hid (p = q → A = none ∧ nc = 0) ∧ Hid (Below w.heap.size w wr)) (fun i _ _ => n - (intOf i).toNat)
      case atStart => exact ⟨p, [], none, 0, by have := HN.out; omega, rfl, rfl, CutI.start hp, ⟨by simp, .inl ⟨rfl, rfl⟩⟩, fun _ => ⟨rfl, rfl⟩, HB1⟩
      case round =>
        obtain ⟨q, left, A, nc, hqn, rfl, rfl, HI, HO, HZ, HB⟩ := hrel
        have HSW := Lib.hid (H.out.below HB.out)
        obtain ⟨z0, z1⟩ := HSW.out.c
        by_cases hq : q < n
        · obtain ⟨x, hx⟩ : ∃ x, l[q]? = some x := ⟨_, List.getElem?_eq_getElem (by have := HN.out; omega)⟩
          obtain ⟨g, o, cc, he, y0, y1⟩ := HSW.out.rd.pair hx
          cases he
          have HX := Lib.hid hx
          have i1 : (0 : Int) ≤ (q : Int) := by omega
          have i2 : (q : Int) < (l.length : Int) := by omega
          clear hx
          by_cases hxb : x.1 < c
          · have HI2 := Lib.hid (HI.out.next HG.out hlt (HP.out r0) HX.out hxb)
            go_wp2_with fail
            have q0 : b < wr.drew.heap.size := World.block_lt_of_cell? _ _ z0
            have q1 : g < wr.drew.heap.size := World.block_lt_of_cell? _ _ y0
            have hS0 : Keep (fun _ => False) wr.drew wr.drew ∧ wr.drew.cell? ⟨b, 0, none⟩ = some (.slice (some ⟨g, o, none⟩) l.length k) ∧ wr.drew.cell? ⟨g, o + q * 2, none⟩ = some (.int .i64 x.1) ∧ wr.drew.cell? ⟨g, o + q * 2 + 1, none⟩ = some (.int .i64 x.2) := ⟨Keep.refl _ _, z0, y0, y1⟩
            go_region_held3 (fun w' => Keep (fun _ => False) wr.drew w' ∧ w'.cell? ⟨b, 0, none⟩ = some (.slice (some ⟨g, o, none⟩) l.length k) ∧ w'.cell? ⟨g, o + q * 2, none⟩ = some (.int .i64 x.1) ∧ w'.cell? ⟨g, o + q * 2 + 1, none⟩ = some (.int .i64 x.2))
              (first | assumption | exact held_cells (by assumption) q0 q1 q1 _)
              (fail)
            all_goals
              obtain ⟨W1, hW1⟩ : ∃ W1, W1 = (wr.alloc (.cells #[.int .i64 x.1, .int .i64 (min x.2 a), .int .i64 (max x.1 c), .int .i64 x.2] 46)).drew := ⟨_, rfl⟩
              rw [← hW1]
              obtain ⟨N, hN⟩ : ∃ N, N = wr.heap.size := ⟨_, rfl⟩
              have HBK1 : Hid (Blk W1 N #[.int .i64 x.1, .int .i64 (min x.2 a), .int .i64 (max x.1 c), .int .i64 x.2] 46) := by show Blk _ _ _ _; rw [hW1, hN]; exact (Blk.new wr _ _).drew
              have HQ1 : Hid (Below wr.heap.size wr W1) := by show Below _ _ _; rw [hW1]; exact below_drewN ((Below.refl _ wr).alloc (Nat.le_refl _) _) 1
              have hN1 : N < W1.heap.size := HBK1.out.lt
              have HO1 : Hid (W1.ownsRow w.heap.size 46 2 (.slice A left.length nc) left.length (left.flatMap pairCells)) := ownsRow_keep HO.out (Keep.none HQ1.out) (fun _ _ => id)
              have HNE1 : Hid (∀ k, (Value.slice A left.length nc).ownBlock = some k → k ≠ N) := fun k hk => by have := (own_lt HO.out hk).2; omega
              rw [← hN]
              clear hW1 hN q0 q1 hS0
              go_wp2_with fail
              obtain ⟨w8, rfl⟩ : ∃ w8 : World, w8 = wr := ⟨_, rfl⟩
              go_loopw [10, 83] (fun sl i w2 => ∃ (j : Nat) (r2 : List (Int × Int)) (A2 : Option Addr) (nc2 : Nat), j ≤ 2 ∧ i = .int .i64 j ∧ sl = .slice A2 r2.length nc2 ∧ Hid (r2 = left ++ pcsN a c x j) ∧ Hid (w2.ownsRow w.heap.size 46 2 (.slice A2 r2.length nc2) r2.length (r2.flatMap pairCells)) ∧ Hid (∀ k, (Value.slice A2 r2.length nc2).ownBlock = some k → k ≠ N) ∧ Hid (Below w.heap.size w w2) ∧ Hid (Blk w2 N #[.int .i64 x.1, .int .i64 (min x.2 a), .int .i64 (max x.1 c), .int .i64 x.2] 46)) (fun _ i _ => 2 - (intOf i).toNat)
              case atStart => exact ⟨0, left, A, nc, by omega, rfl, rfl, by show _ = _; simp [pcsN], HO1, HNE1, bmore HB.out HQ1.out HB.out.size, HBK1⟩
              case round =>
                obtain ⟨j, r2, A2, nc2, hj, rfl, rfl, HR2, HO2, HNE2, HQ2, HBK2⟩ := hrel
                obtain ⟨w2, rfl⟩ : ∃ w2 : World, w2 = wr := ⟨_, rfl⟩
                obtain ⟨k0, k1, k2, k3⟩ := blk4 HBK2.out
                have hN2 : N < w2.heap.size := HBK2.out.lt
                have hs2 := HQ2.out.size
                have hrl : r2.length ≤ 4 := by
                  have h1 := HI.out.two
                  have h2 := pcsN_len a c x j
                  rw [HR2.out, List.length_append]; omega
                by_cases hj2 : j < 2
                · have hj01 : j = 0 ∨ j = 1 := by omega
                  clear hj hj2
                  rcases hj01 with rfl | rfl
                  · by_cases hpc : x.1 < min x.2 a
                    · go_wp2_with (at_builtin; refine wpList_app1n rfl _ _ 44 rfl w.heap.size 46 i0 (.agg #[.int .i64 0, .int .i64 0]) 2 16 Try.underlying44 HI0.out HZ0.out HZ1.out HZ2.out rfl _ r2.length _ rfl (HO2.out.alloc _) (w2.heap.size + 1) (by simp) #[.int .i64 (x.1), .int .i64 (min x.2 a)] 1 rfl rfl (by intro u hu; simp at hu; rcases hu with rfl | rfl <;> rfl) (by omega) (by omega) (by simp; omega) ?_; rintro A3 c3 w3 hown3 hk3 hg3 -)
                      have HQ3 : Hid (Below w.heap.size w w3) := bkeep (HQ2.out.alloc HQ2.out.size _) hk3 (Nat.le_refl _) (fun k hk => (own_lt HO2.out hk).1)
                      have HBK3 : Hid (Blk w3 N #[.int .i64 x.1, .int .i64 (min x.2 a), .int .i64 (max x.1 c), .int .i64 x.2] 46) := (HBK2.out.alloc _).keep hk3 (fun e => HNE2.out _ e rfl)
                      have HNE3 : Hid (∀ k, (Value.slice A3 (r2.length + 1) c3).ownBlock = some k → k ≠ N) := fun k hk => (hg3 k hk).elim (HNE2.out k) (fun h => by simp at h; omega)
                      have HL3 : Hid ((r2 ++ [(x.1, min x.2 a)]).length = r2.length + 1) := by show _ = _; simp
                      have HO3 : Hid (w3.ownsRow w.heap.size 46 2 (.slice A3 (r2.length + 1) c3) (r2.length + 1) ((r2 ++ [(x.1, min x.2 a)]).flatMap pairCells)) := by
                        show World.ownsRow ..
                        rw [List.flatMap_append]; exact hown3
                      clear hown3 hk3 hg3
                      go_wp2
                      go_roundw
                      case rel => exact ⟨1, r2 ++ [(x.1, min x.2 a)], A3, c3, by omega, rfl, by rw [HL3.out], by show _ = _; rw [HR2.out]; simp [pcsN, pcs, hpc], by rw [HL3.out]; exact HO3, by rw [HL3.out]; exact HNE3, HQ3, HBK3⟩
                      case measure => simp [intOf]
                    · have HQ3 : Hid (Below w.heap.size w (w2.alloc (.cells #[.int .i64 (x.1), .int .i64 (min x.2 a)] 46))) := HQ2.out.alloc HQ2.out.size _
                      have HBK3 : Hid (Blk (w2.alloc (.cells #[.int .i64 (x.1), .int .i64 (min x.2 a)] 46)) N #[.int .i64 x.1, .int .i64 (min x.2 a), .int .i64 (max x.1 c), .int .i64 x.2] 46) := HBK2.out.alloc _
                      have HO3 : Hid ((w2.alloc (.cells #[.int .i64 (x.1), .int .i64 (min x.2 a)] 46)).ownsRow w.heap.size 46 2 (.slice A2 r2.length nc2) r2.length (r2.flatMap pairCells)) := HO2.out.alloc _
                      go_wp2
                      go_roundw
                      case rel => exact ⟨1, r2, A2, nc2, by omega, rfl, rfl, by show _ = _; rw [HR2.out]; simp [pcsN, pcs, hpc], HO3, HNE2, HQ3, HBK3⟩
                      case measure => simp [intOf]
                  · by_cases hpc : max x.1 c < x.2
                    · go_wp2_with (at_builtin; refine wpList_app1n rfl _ _ 44 rfl w.heap.size 46 i0 (.agg #[.int .i64 0, .int .i64 0]) 2 16 Try.underlying44 HI0.out HZ0.out HZ1.out HZ2.out rfl _ r2.length _ rfl (HO2.out.alloc _) (w2.heap.size + 1) (by simp) #[.int .i64 (max x.1 c), .int .i64 (x.2)] 1 rfl rfl (by intro u hu; simp at hu; rcases hu with rfl | rfl <;> rfl) (by omega) (by omega) (by simp; omega) ?_; rintro A3 c3 w3 hown3 hk3 hg3 -)
                      have HQ3 : Hid (Below w.heap.size w w3) := bkeep (HQ2.out.alloc HQ2.out.size _) hk3 (Nat.le_refl _) (fun k hk => (own_lt HO2.out hk).1)
                      have HBK3 : Hid (Blk w3 N #[.int .i64 x.1, .int .i64 (min x.2 a), .int .i64 (max x.1 c), .int .i64 x.2] 46) := (HBK2.out.alloc _).keep hk3 (fun e => HNE2.out _ e rfl)
                      have HNE3 : Hid (∀ k, (Value.slice A3 (r2.length + 1) c3).ownBlock = some k → k ≠ N) := fun k hk => (hg3 k hk).elim (HNE2.out k) (fun h => by simp at h; omega)
                      have HL3 : Hid ((r2 ++ [(max x.1 c, x.2)]).length = r2.length + 1) := by show _ = _; simp
                      have HO3 : Hid (w3.ownsRow w.heap.size 46 2 (.slice A3 (r2.length + 1) c3) (r2.length + 1) ((r2 ++ [(max x.1 c, x.2)]).flatMap pairCells)) := by
                        show World.ownsRow ..
                        rw [List.flatMap_append]; exact hown3
                      clear hown3 hk3 hg3
                      go_wp2
                      go_roundw
                      case rel => exact ⟨2, r2 ++ [(max x.1 c, x.2)], A3, c3, by omega, rfl, by rw [HL3.out], by show _ = _; rw [HR2.out]; simp [pcsN, pcs, hpc], by rw [HL3.out]; exact HO3, by rw [HL3.out]; exact HNE3, HQ3, HBK3⟩
                      case measure => simp [intOf]
                    · have HQ3 : Hid (Below w.heap.size w (w2.alloc (.cells #[.int .i64 (max x.1 c), .int .i64 (x.2)] 46))) := HQ2.out.alloc HQ2.out.size _
                      have HBK3 : Hid (Blk (w2.alloc (.cells #[.int .i64 (max x.1 c), .int .i64 (x.2)] 46)) N #[.int .i64 x.1, .int .i64 (min x.2 a), .int .i64 (max x.1 c), .int .i64 x.2] 46) := HBK2.out.alloc _
                      have HO3 : Hid ((w2.alloc (.cells #[.int .i64 (max x.1 c), .int .i64 (x.2)] 46)).ownsRow w.heap.size 46 2 (.slice A2 r2.length nc2) r2.length (r2.flatMap pairCells)) := HO2.out.alloc _
                      go_wp2
                      go_roundw
                      case rel => exact ⟨2, r2, A2, nc2, by omega, rfl, rfl, by show _ = _; rw [HR2.out]; simp [pcsN, pcs, hpc], HO3, HNE2, HQ3, HBK3⟩
                      case measure => simp [intOf]
                · obtain rfl : j = 2 := by omega
                  clear hj hj2
                  go_wp2
                  go_roundw
                  case rel => exact ⟨q + 1, r2, A2, nc2, by omega, by go_num, rfl, by show CutI ..; rw [HR2.out]; exact HI2.out, HO2, fun e => absurd e (by have := HI.out.pq; omega), HQ2⟩
                  case measure => simp [intOf]; omega
          · have HE := Lib.hid (lay_cut b _ l left p q A nc w.heap.size wr HSW.out HG.out HI.out.pq HI.out.ql HI.out.few (HI.out.bounds HG.out) HO.out HB0.out HV0.out HZ.out HI.out.two)
            go_wp2_with fail
            refine HE.out.mono ?_
            rintro e w2 hl
            obtain ⟨T, rfl, HW, HA⟩ := hl.cut HB.out HI.out HG.out hlt (HP.out r0) HRT.out (fun x' hx' => by rw [HX.out] at hx'; cases hx'; omega)
            clear hl
            have hw := HW.out
            go_wp2
            go_ret2
            exact HA.out
        · obtain rfl : q = n := by omega
          have t1 : ¬ ((q : Int) < (q : Int)) := by omega
          have HE := Lib.hid (lay_cut b _ l left p q A nc w.heap.size wr HSW.out HG.out HI.out.pq HI.out.ql HI.out.few (HI.out.bounds HG.out) HO.out HB0.out (by have h := HV0.out; rw [← HN.out] at h; exact h) HZ.out HI.out.two)
          go_wp2_with fail
          refine HE.out.mono ?_
          rintro e w2 hl
          obtain ⟨T, rfl, HW, HA⟩ := hl.cut HB.out HI.out HG.out hlt (HP.out r0) HRT.out (fun x' hx' => by have := (List.getElem?_eq_some_iff.1 hx').1; have := HN.out; omega)
          clear hl
          have hw := HW.out
          go_wp2
          go_ret2
          have hx := HA.out
          rw [HN.out] at hx
          exact hx
end Go.Proofs.Ythjlbbbkghigfaa
