/- build: Lacking, Prefix, Bytes, Log, Has. -/
import Derived.Test.YthjlbbbkghigfaaBuild3
import Derived.Test.YthjlbbbkghigfaaApp2
import Derived.Test.YthjlbbbkghigfaaRangesHas
namespace Go.Proofs.Ythjlbbbkghigfaa
open Go.RowKit
set_option linter.unusedVariables false
set_option linter.unusedSimpArgs false

theorem span_pair (x : BuS) (y : Int × Int) (w : World) (h : BuAt w x) (h0 : 0 ≤ y.1) (h1 : y.1 < y.2) (h2 : y.2 ≤ nb x.s x.k) :
    Calls Try.prog 41 #[.pointer (some ⟨x.b, 0, none⟩), .agg #[.int .i64 y.1, .int .i64 y.2]] w fun e w' => e = .returned (.agg #[.int .i64 (spanP x y).1, .int .i64 (spanP x y).2]) ∧ Below w.heap.size w w' := by
  obtain ⟨a, c⟩ := y
  simp only at h0 h1 h2
  obtain ⟨a', rfl⟩ : ∃ a' : Nat, a = a' := ⟨a.toNat, by omega⟩
  obtain ⟨d, rfl⟩ : ∃ d : Nat, c = (d : Int) + 1 := ⟨(c - 1).toNat, by omega⟩
  exact span_any x a' d w h (by omega) (by omega)
theorem miss_mem {x : BuS} {m : Int} {M : List (Int × Int)} (hM : Good (-1) M) (hC : ∀ i, cov M i = (uptoB x.n m (nb x.s x.k) i && !cov x.L i)) {y : Int × Int} (hy : y ∈ M) : 0 ≤ y.1 ∧ y.1 < y.2 ∧ y.2 ≤ nb x.s x.k := by
  obtain ⟨g1, g2, g3⟩ := hM.mem y hy
  have hc : cov M (y.2 - 1) = true := cov_iff.2 ⟨y, hy, by omega, by omega⟩
  rw [hC] at hc
  have hu : uptoB x.n m (nb x.s x.k) (y.2 - 1) = true := by
    cases h : uptoB x.n m (nb x.s x.k) (y.2 - 1) with
    | true => rfl
    | false => rw [h] at hc; cases hc
  unfold uptoB at hu
  simp at hu
  omega
set_option maxRecDepth 100000 in
set_option maxHeartbeats 2000000 in
theorem lacking_any (x : BuS) (m : Int) (w : World) (h : BuAt w x) (M : List (Int × Int)) (hM : Good (-1) M) (hC : ∀ i, cov M i = (uptoB x.n m (nb x.s x.k) i && !cov x.L i)) :
    Calls Try.prog 25 #[.pointer (some ⟨x.b, 0, none⟩), .int .i64 m] w fun e w' => ∃ A c, e = .returned (.slice A M.length c) ∧ w'.ownsRow w.heap.size 46 2 (.slice A M.length c) M.length ((M.map (spanP x)).flatMap pairCells) ∧ Below w.heap.size w w' := by
  have HMS := Lib.hid (missing_any x m w h)
  have HMM := Lib.hid hM
  have HCC := Lib.hid hC
  have H := Lib.hid h
  have hml := hM.len'
  obtain ⟨q, hq⟩ : ∃ q, q = M.length := ⟨_, rfl⟩
  have HQ := Lib.hid hq
  obtain ⟨i0, hi, hz0, hz1, hz2⟩ := info_parts info_pair
  have HI0 := Lib.hid hi
  have HZ0 := Lib.hid hz0
  have HZ1 := Lib.hid hz1
  have HZ2 := Lib.hid hz2
  rw [← hq] at hml ⊢
  clear h hM hC hq hi hz0 hz1 hz2
  go_enter Try.func25, Try.ntmps25
  go_wp2_with fail
  refine HMS.out.mono ?_
  rintro e w1 ⟨M', A1, k1, rfl, g1, c1, hO1, hb⟩
  obtain rfl : M' = M := good_uniq g1 HMM.out (fun i => by rw [c1, HCC.out])
  rw [← HQ.out] at hO1 ⊢
  have HR1 := Lib.hid (Reads.of_owns hO1)
  have HB1 := Lib.hid hb
  have HLT : Hid (∀ g, (Value.slice A1 q k1).ownBlock = some g → g < w1.heap.size) := fun g hg => (own_lt hO1 hg).2
  clear g1 c1 hb hO1
  go_wp2_with fail
  go_loopw [5, 12] (fun o i wr => ∃ (j : Nat) (A : Option Addr) (c : Nat), j ≤ q ∧ i = .int .i64 j ∧ o = .slice A j c ∧ Hid (wr.ownsRow w1.heap.size 46 2 (.slice A j c) j (((M'.take j).map (spanP x)).flatMap pairCells)) ∧ Hid (Below w1.heap.size w1 wr) ∧ Hid (Reads wr 2 (.slice A1 q k1) q (M'.flatMap pairCells))) (fun _ i _ => q - (intOf i).toNat)
  case atStart => exact ⟨0, none, 0, Nat.zero_le _, rfl, rfl, ⟨by simp, .inl ⟨rfl, rfl⟩⟩, Below.refl _ _, HR1⟩
  case round =>
    obtain ⟨j, A, c, hj, rfl, rfl, HO, HB0, HR⟩ := hrel
    have HB : Hid (Below w.heap.size w wr) := bmore HB1.out HB0.out HB1.out.size
    by_cases hjq : j < q
    · obtain ⟨y, hy⟩ : ∃ y, M'[j]? = some y := ⟨_, List.getElem?_eq_getElem (by have := HQ.out; omega)⟩
      obtain ⟨g, o, cc, he, y0, y1⟩ := HR.out.pair hy
      cases he
      obtain ⟨b1, b2, b3⟩ := miss_mem HMM.out HCC.out (List.mem_of_getElem? hy)
      obtain ⟨wz, hwz⟩ : ∃ wz, wz = wr.alloc (.cells #[.int .i64 y.1, .int .i64 y.2] 46) := ⟨_, rfl⟩
      have HBZ : Hid (Below wr.heap.size wr wz) := by show Below _ _ _; rw [hwz]; exact (Below.refl _ wr).alloc (Nat.le_refl _) _
      have HWZ := Lib.hid hwz
      have HBWZ : Hid (Below w.heap.size w wz) := bmore HB.out HBZ.out HB.out.size
      have HBWZ0 : Hid (Below w1.heap.size w1 wz) := bmore HB0.out HBZ.out HB0.out.size
      have HSP := Lib.hid (span_pair x y wz (H.out.below HBWZ.out) b1 b2 b3)
      have HTK : Hid (((M'.take (j + 1)).map (spanP x)).flatMap pairCells = ((M'.take j).map (spanP x)).flatMap pairCells ++ pairCells (spanP x y)) := by
        show _ = _
        rw [List.take_add_one, hy]; simp
      have hsz : w.heap.size ≤ wz.heap.size := HBWZ.out.size
      obtain ⟨u, hu⟩ : ∃ u, u = spanP x y := ⟨_, rfl⟩
      rw [← hu] at HSP HTK
      have i1 : (0 : Int) ≤ (j : Int) := by omega
      have i2 : (j : Int) < (q : Int) := by omega
      clear hy hwz hu
      go_wp2_with fail
      rw [← HWZ.out]
      refine HSP.out.mono ?_
      rintro e w5 ⟨rfl, hb5⟩
      have HO5 : Hid (w5.ownsRow w1.heap.size 46 2 (.slice A j c) j (((M'.take j).map (spanP x)).flatMap pairCells)) := ownsRow_keep (ownsRow_keep HO.out (Keep.none HBZ.out) (fun _ _ => id)) (Keep.none hb5) (fun _ _ => id)
      have HR5 : Hid (Reads w5 2 (.slice (some ⟨g, o, none⟩) q k1) q (M'.flatMap pairCells)) := (HR.out.keep (Keep.none HBZ.out) (fun _ _ _ => id)).keep (Keep.none hb5) (fun _ _ _ => id)
      have HB5 : Hid (Below w1.heap.size w1 w5) := bmore HBWZ0.out hb5 HBWZ0.out.size
      have hs5 : w1.heap.size ≤ w5.heap.size := HB5.out.size
      clear hb5
      go_wp2_with (at_builtin; refine wpList_app1 rfl _ _ 44 rfl w1.heap.size 46 i0 (.agg #[.int .i64 0, .int .i64 0]) 2 16 Try.underlying44 HI0.out HZ0.out HZ1.out HZ2.out rfl _ j _ rfl HO5.out #[.int .i64 u.1, .int .i64 u.2] 1 rfl rfl (by intro v hv; simp at hv; rcases hv with rfl | rfl <;> rfl) (by omega) (by omega) hs5 ?_; rintro A2 c2 w2 hown2 hk2 - -)
      have HO2 : Hid (w2.ownsRow w1.heap.size 46 2 (.slice A2 (j + 1) c2) (j + 1) (((M'.take (j + 1)).map (spanP x)).flatMap pairCells)) := by
        show World.ownsRow ..
        rw [HTK.out]; exact hown2
      have HB2 : Hid (Below w1.heap.size w1 w2) := bkeep HB5.out hk2 (Nat.le_refl _) (fun k hk => (own_lt HO5.out hk).1)
      have HR2 : Hid (Reads w2 2 (.slice (some ⟨g, o, none⟩) q k1) q (M'.flatMap pairCells)) := HR5.out.keep hk2 (fun g' hg' _ e => by
        have := HLT.out g' hg'
        have := (own_lt HO5.out e).1
        omega)
      clear hown2 hk2
      go_wp2
      go_roundw
      case rel => exact ⟨j + 1, A2, c2, by omega, by go_num, rfl, HO2, HB2, HR2⟩
      case measure => simp [intOf]; omega
    · obtain rfl : j = q := by omega
      have t1 : ¬ ((j : Int) < (j : Int)) := by omega
      have HOF : Hid (wr.ownsRow w.heap.size 46 2 (.slice A j c) j ((M'.map (spanP x)).flatMap pairCells)) := by
        have h := ownsRow_base HO.out HB1.out.size
        rw [List.take_of_length_le (by have := HQ.out; omega)] at h; exact h
      go_wp2
      go_ret
      exact ⟨A, c, rfl, HOF.out, HB.out⟩
theorem layers_pl (b s k n : Nat) (w : World) (h : PlanAt w b s k n) : Calls Try.prog 36 #[.pointer (some ⟨b, 0, none⟩)] w fun e w' => e = .returned (.int .i64 n) ∧ w = w' := by
  obtain ⟨c0, c1, c2⟩ := h.c
  clear h
  go_enter Try.func36, Try.ntmps36
  go_wp2
  go_ret
  exact ⟨rfl, rfl⟩
theorem size_pl (b s k n : Nat) (w : World) (h : PlanAt w b s k n) : Calls Try.prog 37 #[.pointer (some ⟨b, 0, none⟩)] w fun e w' => e = .returned (.int .i64 s) ∧ w = w' := by
  obtain ⟨c0, c1, c2⟩ := h.c
  clear h
  go_enter Try.func37, Try.ntmps37
  go_wp2
  go_ret
  exact ⟨rfl, rfl⟩
/-- what Prefix tells -/
def prefI (x : BuS) : List (Int × Int) → Int
  | [] => x.s
  | y :: _ => (spanP x y).1
set_option maxRecDepth 100000 in
set_option maxHeartbeats 2000000 in
theorem prefix_any (x : BuS) (w : World) (h : BuAt w x) (M : List (Int × Int)) (hM : Good (-1) M) (hC : ∀ i, cov M i = (uptoB x.n (x.n : Int) (nb x.s x.k) i && !cov x.L i)) :
    Calls Try.prog 20 #[.pointer (some ⟨x.b, 0, none⟩)] w fun e w' => e = .returned (.int .i64 (prefI x M)) ∧ Below w.heap.size w w' := by
  have HLY := Lib.hid (layers_pl x.pb x.s x.k x.n w h.plan)
  have HLK := Lib.hid (lacking_any x x.n w h M hM hC)
  have HSZ := Lib.hid (fun w h => size_pl x.pb x.s x.k x.n w h)
  have H := Lib.hid h
  obtain ⟨c0, c1, c2, c3, c4⟩ := h.c
  have hml := hM.len'
  clear h hM hC
  cases M with
  | nil =>
    rw [List.length_nil] at HLK
    go_enter Try.func20, Try.ntmps20
    go_wp2_with fail
    refine HLY.out.mono ?_
    rintro e w1 ⟨rfl, rfl⟩
    go_wp2_with fail
    refine HLK.out.mono ?_
    rintro e w2 ⟨A, c, rfl, hO, hb⟩
    have HB := Lib.hid hb
    obtain ⟨d0, d1, d2, d3, d4⟩ := (H.out.below hb).c
    have HS2 := Lib.hid (HSZ.out w2 (H.out.below hb).plan)
    clear hO hb
    go_wp2_with fail
    refine HS2.out.mono ?_
    rintro e w3 ⟨rfl, rfl⟩
    go_wp2
    go_ret
    exact ⟨rfl, HB.out⟩
  | cons y r =>
    rw [List.length_cons] at HLK hml
    rw [show prefI x (y :: r) = (spanP x y).1 from rfl]
    obtain ⟨u, hu⟩ : ∃ u, u = (spanP x y).1 := ⟨_, rfl⟩
    have HU := Lib.hid hu
    rw [← hu]
    clear hu
    go_enter Try.func20, Try.ntmps20
    go_wp2_with fail
    refine HLY.out.mono ?_
    rintro e w1 ⟨rfl, rfl⟩
    go_wp2_with fail
    refine HLK.out.mono ?_
    rintro e w2 ⟨A, c, rfl, hO, hb⟩
    have HB := Lib.hid hb
    have hr := Reads.of_owns hO
    rw [List.map_cons] at hr
    obtain ⟨g, o, cc, he, y0, y1⟩ := hr.pair (k := 0) (x := spanP x y) rfl
    cases he
    have y2 : w2.cell? ⟨g, o, none⟩ = some (.int .i64 (spanP x y).1) := by simpa using y0
    clear hO hb hr y0 y1
    rw [← HU.out] at y2
    go_wp2
    go_ret
    exact ⟨rfl, HB.out⟩
theorem bhas_any (x : BuS) (t : Int) (w : World) (h : BuAt w x) (ht : t ≤ 9223372036854775807) : Calls Try.prog 12 #[.pointer (some ⟨x.b, 0, none⟩), .int .i64 t] w fun e w' => e = .returned (.bool (cov x.L t)) ∧ Below w.heap.size w w' := by
  have HH := Lib.hid (has_any x.hb x.hv x.L _ t w h.set h.good ht)
  obtain ⟨c0, c1, c2, c3, c4⟩ := h.c
  clear h
  go_enter Try.func12, Try.ntmps12
  go_wp2_with fail
  refine HH.out.mono ?_
  rintro e w1 ⟨rfl, hb⟩
  have HB := Lib.hid hb
  clear hb
  go_wp2
  go_ret
  exact ⟨rfl, HB.out⟩
theorem u8_one (l : List Int) : ∀ u ∈ l.map (Value.int .u8), u.oneCell' = true := by
  intro u hu
  obtain ⟨x, -, rfl⟩ := List.mem_map.1 hu
  rfl
theorem giv_one (l : List Giv) : ∀ u ∈ l.flatMap givCells, u.oneCell' = true := by
  intro u hu
  obtain ⟨x, -, hx⟩ := List.mem_flatMap.1 hu
  simp [givCells] at hx
  rcases hx with rfl | rfl | rfl | rfl <;> rfl
theorem bbytes_any (x : BuS) (w : World) (h : BuAt w x) : Calls Try.prog 19 #[.pointer (some ⟨x.b, 0, none⟩)] w fun e w' => ∃ A c, e = .returned (.slice A x.s c) ∧ w'.ownsRow w.heap.size 5 1 (.slice A x.s c) x.s (x.text.map (Value.int .u8)) ∧ Below w.heap.size w w' := by
  have HC := Lib.hid (clone_u8 x.tv x.s _ w (Reads.of_owns h.txt) (by have := h.ok.1; omega) (u8_one _))
  obtain ⟨c0, c1, c2, c3, c4⟩ := h.c
  clear h
  go_enter Try.func19, Try.ntmps19
  go_wp2_with fail
  refine HC.out.mono ?_
  rintro e w1 ⟨A, c, rfl, hO, hb, -⟩
  have HB := Lib.hid hb
  have HO := Lib.hid hO
  clear hb hO
  go_wp2
  go_ret
  exact ⟨A, c, rfl, HO.out, HB.out⟩
theorem blog_any (x : BuS) (w : World) (h : BuAt w x) (hl : x.log.length ≤ 100000) : Calls Try.prog 11 #[.pointer (some ⟨x.b, 0, none⟩)] w fun e w' => ∃ A c, e = .returned (.slice A x.log.length c) ∧ w'.ownsRow w.heap.size 37 4 (.slice A x.log.length c) x.log.length (x.log.flatMap givCells) ∧ Below w.heap.size w w' := by
  have HC := Lib.hid (clone_giv x.lv x.log.length _ w (Reads.of_owns h.log) (by omega) (giv_one _))
  obtain ⟨c0, c1, c2, c3, c4⟩ := h.c
  clear h
  go_enter Try.func11, Try.ntmps11
  go_wp2_with fail
  refine HC.out.mono ?_
  rintro e w1 ⟨A, c, rfl, hO, hb, -⟩
  have HB := Lib.hid hb
  have HO := Lib.hid hO
  clear hb hO
  go_wp2
  go_ret
  exact ⟨A, c, rfl, HO.out, HB.out⟩
end Go.Proofs.Ythjlbbbkghigfaa
