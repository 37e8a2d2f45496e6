/- ranges: Gaps. -/
import Derived.Test.YtddoefkojlghnaaRgPlain5
import Derived.Test.YtddoefkojlghnaaRgRef3
import Derived.Lib.MinMax
import Derived.Deep.RegionHeld3
namespace Go.Proofs.Ytddoefkojlghnaa
open Go.RowKit
set_option linter.unusedVariables false
set_option linter.unusedSimpArgs false

def GapR (l : List (Int × Int)) (a b : Int) (w w' : World) (e : Ending) : Prop := ∃ out A c, e = .returned (.slice A out.length c) ∧ Good (-1) out ∧ (∀ n, cov out n = (rightB a b && (inB a b n && !cov l n))) ∧ w'.ownsRow w.heap.size 24 2 (.slice A out.length c) out.length (out.flatMap pairCells) ∧ Below w.heap.size w w'
theorem GapR.nil {l : List (Int × Int)} {a b : Int} {w : World} (h : rightB a b = true → a = b) : GapR l a b w w (.returned (.slice none 0 0)) :=
  ⟨[], none, 0, rfl, trivial, fun n => by
    cases hr : rightB a b with
    | false => rfl
    | true => rw [h hr, inB_nil]; rfl, ⟨by simp, .inl ⟨rfl, rfl⟩⟩, Below.refl _ _⟩
theorem parts_ex (t : Int) : ∀ {l : List (Int × Int)} {lo : Int}, Good lo l → ∃ p : Nat, p ≤ l.length ∧ Parts l t p
  | [], _, _ => ⟨0, Nat.le_refl _, fun q x hq => by omega, fun q x _ hx => by simp at hx⟩
  | x :: r, lo, g => by
    by_cases h : x.2 < t
    · obtain ⟨p, hp, hP⟩ := parts_ex t g.2.2.2
      refine ⟨p + 1, by simp; omega, fun q y hq hy => ?_, fun q y hq hy => ?_⟩
      · cases q with
        | zero => simp at hy; subst hy; exact h
        | succ q => exact hP.lo q y (by omega) (by simpa using hy)
      · cases q with
        | zero => omega
        | succ q => exact hP.hi q y (by omega) (by simpa using hy)
    · refine ⟨0, Nat.zero_le _, fun q y hq => by omega, fun q y _ hy => ?_⟩
      cases q with
      | zero => simp at hy; subst hy; omega
      | succ q =>
        have := g.rise (i := 0) (j := q + 1) (by omega) (x := x) rfl hy
        have := (g.mem y (List.mem_of_getElem? hy)).2.1
        omega
theorem parts_uniq {l : List (Int × Int)} {t : Int} {p p' : Nat} (h : Parts l t p) (h' : Parts l t p') (hp : p ≤ l.length) (hp' : p' ≤ l.length) : p = p' := by
  rcases Nat.lt_trichotomy p p' with e | e | e
  · have hx := List.getElem?_eq_getElem (show p < l.length by omega)
    have := h'.lo p _ e hx
    have := h.hi p _ (Nat.le_refl _) hx
    omega
  · exact e
  · have hx := List.getElem?_eq_getElem (show p' < l.length by omega)
    have := h.lo p' _ e hx
    have := h'.hi p' _ (Nat.le_refl _) hx
    omega
set_option maxRecDepth 100000 in
set_option maxHeartbeats 4000000 in
theorem gaps_any (b0 : Nat) (v : Value) (l : List (Int × Int)) (N a b : Int) (w : World) (h : SetAt w b0 v l N) (hg : Good (-1) l) :
    Calls Try.prog 21 #[.pointer (some ⟨b0, 0, none⟩), .int .i64 a, .int .i64 b] w fun e w' => GapR l a b w w' e := by
  have HR := Lib.hid (right_any a b)
  cases hr : rightB a b with
  | false =>
    have HS := Lib.hid (GapR.nil (l := l) (w := w) (a := a) (b := b) (fun e => by rw [hr] at e; cases e))
    rw [hr] at HR
    clear h hg hr
    go_enter Try.func21, Try.ntmps21
    go_wp2_with fail
    refine (HR.out _).mono ?_
    rintro e w1 ⟨rfl, rfl⟩
    go_wp2
    go_ret
    exact HS.out
  | true =>
    obtain ⟨r0, r1, r2⟩ := rightB_iff.1 hr
    by_cases hac : a = b
    · subst hac
      have HS := Lib.hid (GapR.nil (l := l) (w := w) (a := a) (b := a) (fun e => rfl))
      rw [hr] at HR
      clear h hg hr
      go_enter Try.func21, Try.ntmps21
      go_wp2_with fail
      refine (HR.out _).mono ?_
      rintro e w1 ⟨rfl, rfl⟩
      go_wp2
      go_ret
      exact HS.out
    · have hlt : a < b := by omega
      have hln := hg.len'
      obtain ⟨p, hpl, hP⟩ := parts_ex a hg
      have HP := Lib.hid hP
      have HF : Hid (∀ w', Keep (fun _ => False) w.drew w' → Calls Try.prog 27 #[.pointer (some ⟨b0, 0, none⟩), .int .i64 a] w' fun e w'' => e = .returned (.int .i64 p) ∧ Keep (fun _ => False) w.drew w'') := fun w' hk => (from_any b0 v l N a w' (h.drew.keep hk id (fun _ _ => id)) hg (by omega) (by omega)).mono fun e w'' ⟨p', h1, h2, h3, h4⟩ => ⟨by rw [h3, parts_uniq (h2.out r0) hP h1 hpl], hk.trans (Keep.none h4) (fun _ _ h => h)⟩
      clear hP
      have HRT := Lib.hid hr
      rw [hr] at HR
      have HG := Lib.hid hg
      have H := Lib.hid h
      obtain ⟨A0, k, e0, q1, q2, q3, -⟩ := ownsRow_shape h.row
      subst e0
      obtain ⟨n, hnn⟩ : ∃ n, n = l.length := ⟨_, rfl⟩
      have HN := Lib.hid hnn
      obtain ⟨i0, hi, hz0, hz1, hz2⟩ := info_parts info_pair
      have HI0 := Lib.hid hi
      have HZ0 := Lib.hid hz0
      have HZ1 := Lib.hid hz1
      have HZ2 := Lib.hid hz2
      rw [← hnn] at hln H q1 q2
      have c0 := (H.out.c).1
      have c1 : w.drew.cell? ⟨b0, 0, none⟩ = some (.slice A0 n k) := c0
      have HB0 : b0 < w.drew.heap.size := H.out.str.lt
      clear h hg hr hnn hi hz0 hz1 hz2
      go_enter Try.func21, Try.ntmps21
      go_wp2_with fail
      refine (HR.out _).mono ?_
      rintro e w1 ⟨rfl, rfl⟩
      go_wp2_with fail
      have h0 : Keep (fun _ => False) w.drew w.drew ∧ w.drew.cell? ⟨b0, 0, none⟩ = some (.slice A0 n k) := ⟨Keep.refl _ _, c1⟩
      have hpn : p ≤ n := by have := HN.out; omega
      have p1 : (0 : Int) ≤ (p : Int) := by omega
      have p2 : (p : Int) ≤ (n : Int) := by omega
      have p3 : (p : Int) ≤ (k : Int) := by omega
      cases A0 with
      | none =>
        obtain ⟨rfl, rfl⟩ := q2 rfl
        obtain rfl : p = 0 := by omega
        clear q2 q3
        go_region_held3 (fun w' => Keep (fun _ => False) w.drew w' ∧ w'.cell? ⟨b0, 0, none⟩ = some (.slice none 0 0))
          (first | assumption | exact ⟨h7, (h7.cell (p := ⟨b0, 0, none⟩) HB0 id).trans c1⟩)
          (first | (go_at_call 27; refine (HF.out _ (‹Keep (fun _ => False) w.drew _ ∧ _›.1)).mono ?_; rintro e w7 ⟨rfl, h7⟩))
        have HB7 : Hid (Below w.heap.size w w7) := by
          have hk : Keep (fun _ => False) w w7 := ((Keep.refl (fun _ => False) w).drewN 1).trans h7 (fun _ _ h => h)
          exact hk.below (fun _ h => h.elim) (Nat.le_refl _)
        clear h0 h7 c0 c1
        go_wp2_with fail
        go_loopw [1, 7, 28] (fun x o i wr => ∃ (j : Nat) (a' : Int) (out : List (Int × Int)) (A : Option Addr) (c : Nat), j ≤ 0 - 0 ∧ i = .int .i64 j ∧ x = .int .i64 a' ∧ o = .slice A out.length c ∧ Hid (GapI l a b (0 + j) a' out) ∧ Hid (wr.ownsRow w.heap.size 24 2 (.slice A out.length c) out.length (out.flatMap pairCells)) ∧ Hid (Below w.heap.size w wr)) (fun _ _ i _ => (0 - 0) - (intOf i).toNat)
        case atStart => exact ⟨0, a, [], none, 0, by omega, by first | rfl | go_num, rfl, rfl, GapI.start HP.out r2 r1, ⟨by simp, .inl ⟨rfl, rfl⟩⟩, HB7⟩
        case round =>
          obtain ⟨j, a', out, A, c, hj, rfl, rfl, rfl, HI, HO, HB⟩ := hrel
          have hs := HB.out.size
          have hol := HI.out.gd.len'
          obtain rfl : j = 0 := by omega
          have hend : ∀ x, l[0 + 0]? = some x → b ≤ x.1 := fun x hx => by have := (List.getElem?_eq_some_iff.1 hx).1; have := HN.out; omega
          by_cases hab' : a' < b
          · have HD : Hid (Good (-1) (out ++ [(a', b)]) ∧ ∀ n, cov (out ++ [(a', b)]) n = (inB a b n && !cov l n)) := by
              have h := HI.out.done HG.out r0 r1 hend
              rw [if_pos hab'] at h; exact h
            have hol := HI.out.gd.len'
            clear hend
            go_wp2_with (at_builtin; refine wpList_app1 rfl _ _ 22 rfl w.heap.size 24 i0 (.agg #[.int .i64 0, .int .i64 0]) 2 16 Try.underlying22 HI0.out HZ0.out HZ1.out HZ2.out rfl _ out.length _ rfl HO.out #[.int .i64 a', .int .i64 b] 1 rfl rfl (by intro u hu; simp at hu; rcases hu with rfl | rfl <;> rfl) (by omega) (by omega) (by first | omega | (simp; omega)) ?_; rintro A2 c2 w2 hown2 hk2 - -)
            have HB2 : Hid (Below w.heap.size w w2) := bkeep HB.out hk2 (Nat.le_refl _) (fun k hk => (own_lt HO.out hk).1)
            have HL2 : Hid ((out ++ [(a', b)]).length = out.length + 1) := by show _ = _; simp
            have HO2 : Hid (w2.ownsRow w.heap.size 24 2 (.slice A2 (out.length + 1) c2) (out.length + 1) ((out ++ [(a', b)]).flatMap pairCells)) := by
              show World.ownsRow ..
              rw [List.flatMap_append]; exact hown2
            clear hown2 hk2
            go_wp2
            go_ret
            exact ⟨out ++ [(a', b)], A2, c2, (by rw [HL2.out]; rfl), HD.out.1, fun n => by rw [HRT.out, Bool.true_and]; exact HD.out.2 n, by rw [HL2.out]; exact HO2.out, HB2.out⟩
          · have HD : Hid (Good (-1) out ∧ ∀ n, cov out n = (inB a b n && !cov l n)) := by
              have h := HI.out.done HG.out r0 r1 hend
              rw [if_neg hab'] at h; exact h
            clear hend
            go_wp2
            go_ret
            exact ⟨out, A, c, rfl, HD.out.1, fun n => by rw [HRT.out, Bool.true_and]; exact HD.out.2 n, HO.out, HB.out⟩
      | some ad =>
        obtain ⟨g, o, sp⟩ := ad
        obtain ⟨hsp, hof⟩ := q3 _ rfl
        simp only at hsp hof
        subst hsp
        subst hof
        clear q2 q3
        by_cases hkp : k = p
        · obtain rfl : n = k := by omega
          subst hkp
          go_region_held3 (fun w' => Keep (fun _ => False) w.drew w' ∧ w'.cell? ⟨b0, 0, none⟩ = some (.slice (some ⟨g, 0, none⟩) n n))
            (first | assumption | exact ⟨h7, (h7.cell (p := ⟨b0, 0, none⟩) HB0 id).trans c1⟩)
            (first | (go_at_call 27; refine (HF.out _ (‹Keep (fun _ => False) w.drew _ ∧ _›.1)).mono ?_; rintro e w7 ⟨rfl, h7⟩))
          have HB7 : Hid (Below w.heap.size w w7) := by
            have hk : Keep (fun _ => False) w w7 := ((Keep.refl (fun _ => False) w).drewN 1).trans h7 (fun _ _ h => h)
            exact hk.below (fun _ h => h.elim) (Nat.le_refl _)
          clear h0 h7 c0 c1
          go_wp2_with fail
          go_loopw [1, 7, 28] (fun x o i wr => ∃ (j : Nat) (a' : Int) (out : List (Int × Int)) (A : Option Addr) (c : Nat), j ≤ n - n ∧ i = .int .i64 j ∧ x = .int .i64 a' ∧ o = .slice A out.length c ∧ Hid (GapI l a b (n + j) a' out) ∧ Hid (wr.ownsRow w.heap.size 24 2 (.slice A out.length c) out.length (out.flatMap pairCells)) ∧ Hid (Below w.heap.size w wr)) (fun _ _ i _ => (n - n) - (intOf i).toNat)
          case atStart => exact ⟨0, a, [], none, 0, by omega, by first | rfl | go_num, rfl, rfl, GapI.start HP.out r2 r1, ⟨by simp, .inl ⟨rfl, rfl⟩⟩, HB7⟩
          case round =>
            obtain ⟨j, a', out, A, c, hj, rfl, rfl, rfl, HI, HO, HB⟩ := hrel
            have hs := HB.out.size
            have hol := HI.out.gd.len'
            obtain rfl : j = 0 := by omega
            have hend : ∀ x, l[n + 0]? = some x → b ≤ x.1 := fun x hx => by have := (List.getElem?_eq_some_iff.1 hx).1; have := HN.out; omega
            by_cases hab' : a' < b
            · have HD : Hid (Good (-1) (out ++ [(a', b)]) ∧ ∀ n, cov (out ++ [(a', b)]) n = (inB a b n && !cov l n)) := by
                have h := HI.out.done HG.out r0 r1 hend
                rw [if_pos hab'] at h; exact h
              have hol := HI.out.gd.len'
              clear hend
              go_wp2_with (at_builtin; refine wpList_app1 rfl _ _ 22 rfl w.heap.size 24 i0 (.agg #[.int .i64 0, .int .i64 0]) 2 16 Try.underlying22 HI0.out HZ0.out HZ1.out HZ2.out rfl _ out.length _ rfl HO.out #[.int .i64 a', .int .i64 b] 1 rfl rfl (by intro u hu; simp at hu; rcases hu with rfl | rfl <;> rfl) (by omega) (by omega) (by first | omega | (simp; omega)) ?_; rintro A2 c2 w2 hown2 hk2 - -)
              have HB2 : Hid (Below w.heap.size w w2) := bkeep HB.out hk2 (Nat.le_refl _) (fun k hk => (own_lt HO.out hk).1)
              have HL2 : Hid ((out ++ [(a', b)]).length = out.length + 1) := by show _ = _; simp
              have HO2 : Hid (w2.ownsRow w.heap.size 24 2 (.slice A2 (out.length + 1) c2) (out.length + 1) ((out ++ [(a', b)]).flatMap pairCells)) := by
                show World.ownsRow ..
                rw [List.flatMap_append]; exact hown2
              clear hown2 hk2
              go_wp2
              go_ret
              exact ⟨out ++ [(a', b)], A2, c2, (by rw [HL2.out]; rfl), HD.out.1, fun n => by rw [HRT.out, Bool.true_and]; exact HD.out.2 n, by rw [HL2.out]; exact HO2.out, HB2.out⟩
            · have HD : Hid (Good (-1) out ∧ ∀ n, cov out n = (inB a b n && !cov l n)) := by
                have h := HI.out.done HG.out r0 r1 hend
                rw [if_neg hab'] at h; exact h
              clear hend
              go_wp2
              go_ret
              exact ⟨out, A, c, rfl, HD.out.1, fun n => by rw [HRT.out, Bool.true_and]; exact HD.out.2 n, HO.out, HB.out⟩
        · have HRD : Hid (∀ W, Below w.heap.size w W → Reads W 2 (.slice (some ⟨g, p * 2, none⟩) (n - p) (k - p)) (n - p) ((l.drop p).flatMap pairCells)) := fun W hW => by
            have h := H.out.row
            rw [← HN.out] at h
            exact (reads_behind HN.out.symm hpn h).keep (Keep.none hW) (fun _ _ _ => id)
          go_region_held3 (fun w' => Keep (fun _ => False) w.drew w' ∧ w'.cell? ⟨b0, 0, none⟩ = some (.slice (some ⟨g, 0, none⟩) n k))
            (first | assumption | exact ⟨h7, (h7.cell (p := ⟨b0, 0, none⟩) HB0 id).trans c1⟩)
            (first | (go_at_call 27; refine (HF.out _ (‹Keep (fun _ => False) w.drew _ ∧ _›.1)).mono ?_; rintro e w7 ⟨rfl, h7⟩))
          have HB7 : Hid (Below w.heap.size w w7) := by
            have hk : Keep (fun _ => False) w w7 := ((Keep.refl (fun _ => False) w).drewN 1).trans h7 (fun _ _ h => h)
            exact hk.below (fun _ h => h.elim) (Nat.le_refl _)
          clear h0 h7 c0 c1
          go_wp2_with fail
          go_loopw [1, 7, 28] (fun x o i wr => ∃ (j : Nat) (a' : Int) (out : List (Int × Int)) (A : Option Addr) (c : Nat), j ≤ n - p ∧ i = .int .i64 j ∧ x = .int .i64 a' ∧ o = .slice A out.length c ∧ Hid (GapI l a b (p + j) a' out) ∧ Hid (wr.ownsRow w.heap.size 24 2 (.slice A out.length c) out.length (out.flatMap pairCells)) ∧ Hid (Below w.heap.size w wr)) (fun _ _ i _ => (n - p) - (intOf i).toNat)
          case atStart => exact ⟨0, a, [], none, 0, by omega, by first | rfl | go_num, rfl, rfl, GapI.start HP.out r2 r1, ⟨by simp, .inl ⟨rfl, rfl⟩⟩, HB7⟩
          case round =>
            obtain ⟨j, a', out, A, c, hj, rfl, rfl, rfl, HI, HO, HB⟩ := hrel
            have hs := HB.out.size
            have hol := HI.out.gd.len'
            by_cases hjn : j < n - p
            · obtain ⟨x, hx⟩ : ∃ x, l[p + j]? = some x := ⟨_, List.getElem?_eq_getElem (by have := HN.out; omega)⟩
              obtain ⟨g', o', c', he, y0, y1⟩ := (HRD.out wr HB.out).pair (k := j) (x := x) (by rw [List.getElem?_drop]; exact hx)
              cases he
              have HX := Lib.hid hx
              have i1 : (0 : Int) ≤ (j : Int) := by omega
              have i2 : (j : Int) < ((n - p : Nat) : Int) := by omega
              clear hx
              by_cases hxb : x.1 < b
              · by_cases hax : a' < x.1
                · have HI2 : Hid (GapI l a b (p + (j + 1)) (max a' x.2) (out ++ [(a', x.1)])) := by
                    have h := HI.out.next HG.out r0 HX.out hxb r1
                    rw [if_pos hax] at h; exact h
                  go_wp2_with (at_builtin; refine wpList_app1n rfl _ _ 22 rfl w.heap.size 24 i0 (.agg #[.int .i64 0, .int .i64 0]) 2 16 Try.underlying22 HI0.out HZ0.out HZ1.out HZ2.out rfl _ out.length _ rfl (HO.out.alloc _) (wr.heap.size + 1) (by simp) #[.int .i64 a', .int .i64 x.1] 1 rfl rfl (by intro u hu; simp at hu; rcases hu with rfl | rfl <;> rfl) (by omega) (by omega) (by first | omega | (simp; omega)) ?_; rintro A2 c2 w2 hown2 hk2 - -; have hb2 : wr.heap.size < w2.heap.size := (by have := hk2.size; simp at this; omega); have z2 : w2.cell? ⟨wr.heap.size, 1, none⟩ = some (.int .i64 x.2) := (hk2.cell (p := ⟨wr.heap.size, 1, none⟩) (by simp) (fun e => by have := (own_lt HO.out e).2; exact absurd this (by simp))).trans (Blk.cell (Blk.new wr #[.int .i64 x.1, .int .i64 x.2] 24) 1 rfl))
                  have HB2 : Hid (Below w.heap.size w w2) := bkeep (HB.out.alloc HB.out.size _) hk2 (Nat.le_refl _) (fun k hk => (own_lt HO.out hk).1)
                  have HL2 : Hid ((out ++ [(a', x.1)]).length = out.length + 1) := by show _ = _; simp
                  have HO2 : Hid (w2.ownsRow w.heap.size 24 2 (.slice A2 (out.length + 1) c2) (out.length + 1) ((out ++ [(a', x.1)]).flatMap pairCells)) := by
                    show World.ownsRow ..
                    rw [List.flatMap_append]; exact hown2
                  clear hown2 hk2
                  go_wp2
                  go_roundw
                  case rel => exact ⟨j + 1, max a' x.2, out ++ [(a', x.1)], A2, c2, by omega, by go_num, rfl, by rw [HL2.out], HI2, by rw [HL2.out]; exact HO2, HB2⟩
                  case measure => simp [intOf]; omega
                · have HI2 : Hid (GapI l a b (p + (j + 1)) (max a' x.2) out) := by
                    have h := HI.out.next HG.out r0 HX.out hxb r1
                    rw [if_neg hax] at h; exact h
                  have HB2 : Hid (Below w.heap.size w (wr.alloc (.cells #[.int .i64 x.1, .int .i64 x.2] 24))) := HB.out.alloc HB.out.size _
                  have HO2 : Hid ((wr.alloc (.cells #[.int .i64 x.1, .int .i64 x.2] 24)).ownsRow w.heap.size 24 2 (.slice A out.length c) out.length (out.flatMap pairCells)) := HO.out.alloc _
                  go_wp2
                  go_roundw
                  case rel => exact ⟨j + 1, max a' x.2, out, A, c, by omega, by go_num, rfl, rfl, HI2, HO2, HB2⟩
                  case measure => simp [intOf]; omega
              · have hend : ∀ x, l[p + j]? = some x → b ≤ x.1 := fun y hy => by rw [HX.out] at hy; cases hy; omega
                have HBz : Hid (Below w.heap.size w (wr.alloc (.cells #[.int .i64 x.1, .int .i64 x.2] 24))) := HB.out.alloc HB.out.size _
                have HOz : Hid ((wr.alloc (.cells #[.int .i64 x.1, .int .i64 x.2] 24)).ownsRow w.heap.size 24 2 (.slice A out.length c) out.length (out.flatMap pairCells)) := HO.out.alloc _
                by_cases hab' : a' < b
                · have HD : Hid (Good (-1) (out ++ [(a', b)]) ∧ ∀ n, cov (out ++ [(a', b)]) n = (inB a b n && !cov l n)) := by
                    have h := HI.out.done HG.out r0 r1 hend
                    rw [if_pos hab'] at h; exact h
                  have hol := HI.out.gd.len'
                  clear hend
                  go_wp2_with (at_builtin; refine wpList_app1n rfl _ _ 22 rfl w.heap.size 24 i0 (.agg #[.int .i64 0, .int .i64 0]) 2 16 Try.underlying22 HI0.out HZ0.out HZ1.out HZ2.out rfl _ out.length _ rfl HOz.out (wr.heap.size + 1) (by simp) #[.int .i64 a', .int .i64 b] 1 rfl rfl (by intro u hu; simp at hu; rcases hu with rfl | rfl <;> rfl) (by omega) (by omega) (by first | omega | (simp; omega)) ?_; rintro A2 c2 w2 hown2 hk2 - -)
                  have HB2 : Hid (Below w.heap.size w w2) := bkeep HBz.out hk2 (Nat.le_refl _) (fun k hk => (own_lt HOz.out hk).1)
                  have HL2 : Hid ((out ++ [(a', b)]).length = out.length + 1) := by show _ = _; simp
                  have HO2 : Hid (w2.ownsRow w.heap.size 24 2 (.slice A2 (out.length + 1) c2) (out.length + 1) ((out ++ [(a', b)]).flatMap pairCells)) := by
                    show World.ownsRow ..
                    rw [List.flatMap_append]; exact hown2
                  clear hown2 hk2
                  go_wp2
                  go_ret
                  exact ⟨out ++ [(a', b)], A2, c2, (by rw [HL2.out]; rfl), HD.out.1, fun n => by rw [HRT.out, Bool.true_and]; exact HD.out.2 n, by rw [HL2.out]; exact HO2.out, HB2.out⟩
                · have HD : Hid (Good (-1) out ∧ ∀ n, cov out n = (inB a b n && !cov l n)) := by
                    have h := HI.out.done HG.out r0 r1 hend
                    rw [if_neg hab'] at h; exact h
                  clear hend
                  go_wp2
                  go_ret
                  exact ⟨out, A, c, rfl, HD.out.1, fun n => by rw [HRT.out, Bool.true_and]; exact HD.out.2 n, HOz.out, HBz.out⟩
            · obtain rfl : j = n - p := by omega
              have hend : ∀ x, l[p + (n - p)]? = some x → b ≤ x.1 := fun x hx => by have := (List.getElem?_eq_some_iff.1 hx).1; have := HN.out; omega
              have t9 : ¬ (((n - p : Nat) : Int) < ((n - p : Nat) : Int)) := by omega
              by_cases hab' : a' < b
              · have HD : Hid (Good (-1) (out ++ [(a', b)]) ∧ ∀ n, cov (out ++ [(a', b)]) n = (inB a b n && !cov l n)) := by
                  have h := HI.out.done HG.out r0 r1 hend
                  rw [if_pos hab'] at h; exact h
                have hol := HI.out.gd.len'
                clear hend
                go_wp2_with (at_builtin; refine wpList_app1 rfl _ _ 22 rfl w.heap.size 24 i0 (.agg #[.int .i64 0, .int .i64 0]) 2 16 Try.underlying22 HI0.out HZ0.out HZ1.out HZ2.out rfl _ out.length _ rfl HO.out #[.int .i64 a', .int .i64 b] 1 rfl rfl (by intro u hu; simp at hu; rcases hu with rfl | rfl <;> rfl) (by omega) (by omega) (by first | omega | (simp; omega)) ?_; rintro A2 c2 w2 hown2 hk2 - -)
                have HB2 : Hid (Below w.heap.size w w2) := bkeep HB.out hk2 (Nat.le_refl _) (fun k hk => (own_lt HO.out hk).1)
                have HL2 : Hid ((out ++ [(a', b)]).length = out.length + 1) := by show _ = _; simp
                have HO2 : Hid (w2.ownsRow w.heap.size 24 2 (.slice A2 (out.length + 1) c2) (out.length + 1) ((out ++ [(a', b)]).flatMap pairCells)) := by
                  show World.ownsRow ..
                  rw [List.flatMap_append]; exact hown2
                clear hown2 hk2
                go_wp2
                go_ret
                exact ⟨out ++ [(a', b)], A2, c2, (by rw [HL2.out]; rfl), HD.out.1, fun n => by rw [HRT.out, Bool.true_and]; exact HD.out.2 n, by rw [HL2.out]; exact HO2.out, HB2.out⟩
              · have HD : Hid (Good (-1) out ∧ ∀ n, cov out n = (inB a b n && !cov l n)) := by
                  have h := HI.out.done HG.out r0 r1 hend
                  rw [if_neg hab'] at h; exact h
                clear hend
                go_wp2
                go_ret
                exact ⟨out, A, c, rfl, HD.out.1, fun n => by rw [HRT.out, Bool.true_and]; exact HD.out.2 n, HO.out, HB.out⟩
end Go.Proofs.Ytddoefkojlghnaa
