/- ranges: the law's reference: Stretches. -/
import Derived.Test.YtddoefkojlghnaaRgRef2
import Derived.Test.YtddoefkojlghnaaApp2
import Derived.Test.YtddoefkojlghnaaRanges11
namespace Go.Proofs.Ytddoefkojlghnaa
open Go.RowKit
set_option linter.unusedVariables false
set_option linter.unusedSimpArgs false

theorem flat_last {S : List (Int × Int)} {x : Int × Int} {k : Nat} (hk : S.length = k) (u : Int) : ((S ++ [x]).flatMap pairCells).set (k * 2 + 1) (.int .i64 u) = (S ++ [(x.1, u)]).flatMap pairCells := by
  have hl : (S.flatMap pairCells).length = k * 2 := by rw [flatMap_length pairCells_len, hk]
  rw [List.flatMap_append, List.flatMap_append, List.set_append_right _ _ (show (S.flatMap pairCells).length ≤ k * 2 + 1 by omega), hl, Nat.add_sub_cancel_left]
  rfl
set_option maxRecDepth 100000 in
set_option maxHeartbeats 2000000 in
theorem refstr_any (v : Value) (f : Int → Bool) (a b : Int) (vb : Bool) (w : World) (h : Reads w 1 v 16384 (bitV 16384 f)) (ha : 0 ≤ a) (hb : b ≤ 16384) :
    Calls Try.prog 14 #[v, .int .i64 a, .int .i64 b, .int .i64 (b01 vb)] w fun e w' => ∃ S A c, e = .returned (.slice A S.length c) ∧ Good (-1) S ∧ (∀ n, cov S n = (inB a b n && (f n == vb))) ∧ w'.ownsRow w.heap.size 24 2 (.slice A S.length c) S.length (S.flatMap pairCells) ∧ Below w.heap.size w w' := by
  have H := Lib.hid h
  obtain ⟨A0, k0, rfl, -⟩ := h.val
  obtain ⟨i0, hi, hz0, hz1, hz2⟩ := info_parts info_pair
  have HI0 := Lib.hid hi
  have HZ0 := Lib.hid hz0
  have HZ1 := Lib.hid hz1
  have HZ2 := Lib.hid hz2
  obtain ⟨u, hu⟩ : ∃ u, u = b01 vb := ⟨_, rfl⟩
  have HU := Lib.hid hu
  rw [← hu]
  clear h hu hi hz0 hz1 hz2
  go_enter Try.func14, Try.ntmps14
  go_wp2_with fail
  go_loopw [9, 10] (fun o x wr => ∃ (i : Int) (S : List (Int × Int)) (A : Option Addr) (c : Nat), x = .int .i64 i ∧ o = .slice A S.length c ∧ a ≤ i ∧ (i ≤ b ∨ i = a) ∧ Hid (StrI f vb a i S) ∧ Hid (wr.ownsRow w.heap.size 24 2 (.slice A S.length c) S.length (S.flatMap pairCells)) ∧ Hid (Below w.heap.size w wr)) (fun _ x _ => (b - intOf x).toNat)
  case atStart => exact ⟨a, [], none, 0, rfl, rfl, Int.le_refl _, .inr rfl, StrI.start f vb a, ⟨by simp, .inl ⟨rfl, rfl⟩⟩, Below.refl _ w⟩
  case round =>
    obtain ⟨i, S, A, c, rfl, rfl, hai, hib, HI, HO, HB⟩ := hrel
    by_cases hlt : i < b
    · obtain ⟨q, rfl⟩ : ∃ q : Nat, i = q := ⟨i.toNat, by omega⟩
      obtain ⟨g, o', c', he, y0⟩ := (H.out.below HB.out).at q _ (bitV_get (by omega))
      cases he
      have HB1 : Hid ((b01 (f q) == u) = (f q == vb)) := by show _ = _; rw [HU.out, b01_eq]
      obtain ⟨z, hz⟩ : ∃ z, z = b01 (f (q : Int)) := ⟨_, rfl⟩
      rw [← hz] at y0 HB1
      clear hz
      cases hf : f (q : Int) == vb with
      | false =>
        have t1 : (z == u) = false := by rw [HB1.out, hf]
        have t2 : (z != u) = true := by rw [bne, t1]; rfl
        have HI2 := Lib.hid (HI.out.skip hai hf)
        clear hf
        go_wp2
        go_roundw
        case rel => exact ⟨(q : Int) + 1, S, A, c, by go_num, rfl, by omega, .inl (by omega), HI2, HO, HB⟩
        case measure => simp [intOf]; omega
      | true =>
        have t1 : (z == u) = true := by rw [HB1.out, hf]
        have t2 : (z != u) = false := by rw [bne, t1]; rfl
        have hs := HB.out.size
        have hSl := HI.out.1.len'
        rcases List.eq_nil_or_concat S with rfl | ⟨S0, x, rfl⟩
        · have HI2 := Lib.hid (HI.out.new (by omega) hai (by omega) hf (fun x hx => by cases hx))
          clear hf
          go_wp2_with (at_builtin; refine wpList_app1 rfl _ _ 22 rfl w.heap.size 24 i0 (.agg #[.int .i64 0, .int .i64 0]) 2 16 Try.underlying22 HI0.out HZ0.out HZ1.out HZ2.out rfl _ 0 _ rfl HO.out #[.int .i64 (q : Int), .int .i64 ((q : Int) + 1)] 1 rfl rfl (by intro u hu; simp at hu; rcases hu with rfl | rfl <;> rfl) (by omega) (by omega) hs ?_; rintro A2 c2 w2 hown2 hk2 - -)
          have HB2 : Hid (Below w.heap.size w w2) := bkeep HB.out hk2 (Nat.le_refl _) (fun k hk => (own_lt HO.out hk).1)
          have HO2 : Hid (w2.ownsRow w.heap.size 24 2 (.slice A2 ([((q : Int), (q : Int) + 1)] : List (Int × Int)).length c2) ([((q : Int), (q : Int) + 1)] : List (Int × Int)).length ([((q : Int), (q : Int) + 1)].flatMap pairCells)) := hown2
          clear hown2 hk2
          go_wp2
          go_roundw
          case rel => exact ⟨(q : Int) + 1, [((q : Int), (q : Int) + 1)], A2, c2, by go_num, rfl, by omega, .inl (by omega), HI2, HO2, HB2⟩
          case measure => simp [intOf]; omega
        · obtain ⟨k, hk⟩ : ∃ k, k = S0.length := ⟨_, rfl⟩
          rw [List.concat_eq_append] at HO HI hSl ⊢
          have hl : (S0 ++ [x]).length = k + 1 := by rw [List.length_append, hk]; rfl
          have HL := Lib.hid hl
          have HKK := Lib.hid hk
          rw [hl] at HO hSl ⊢
          obtain ⟨A', c', e', hkc, h2, h3, h4⟩ := ownsRow_shape HO.out
          cases e'
          obtain ⟨G, rfl⟩ : ∃ G, A = some ⟨G, 0, none⟩ := by
            cases A with
            | none => have := (h2 rfl).1; omega
            | some a => exact h4 a rfl
          have hfl : ((S0 ++ [x]).flatMap pairCells)[k * 2 + 1]? = some (.int .i64 x.2) := by
            rw [List.flatMap_append, List.getElem?_append_right (by rw [flatMap_length pairCells_len, ← hk]; omega), flatMap_length pairCells_len, ← hk, Nat.add_sub_cancel_left]; rfl
          have y1 : wr.cell? ⟨G, k * 2 + 1, none⟩ = some (.int .i64 x.2) := ownsRow_cell HO.out hfl
          have y2 := ownsRow_frozen HO.out (k * 2 + 1)
          simp only at y2
          clear hl hk h2 h3 h4
          by_cases hx : x.2 = (q : Int)
          · have HI2 := Lib.hid (HI.out.on hai (by omega) hf hx)
            have HL2 : Hid ((S0 ++ [(x.1, (q : Int) + 1)]).length = k + 1) := by show _ = _; rw [List.length_append, HKK.out]; rfl
            have HO2 : Hid ((wr.setCell ⟨G, k * 2 + 1, none⟩ (.int .i64 ((q : Int) + 1))).ownsRow w.heap.size 24 2 (.slice (some ⟨G, 0, none⟩) (k + 1) c) (k + 1) ((S0 ++ [(x.1, (q : Int) + 1)]).flatMap pairCells)) := by
              have ho := ownsRow_set HO.out (j := k * 2 + 1) (List.getElem?_eq_some_iff.1 hfl).1 (.int .i64 ((q : Int) + 1))
              rw [flat_last HKK.out.symm] at ho
              exact ho
            have HB2 : Hid (Below w.heap.size w (wr.setCell ⟨G, k * 2 + 1, none⟩ (.int .i64 ((q : Int) + 1)))) := bkeep HB.out ((Keep.refl (fun j => j = G) wr).setCell (p := ⟨G, k * 2 + 1, none⟩) (.inl rfl) _) (Nat.le_refl _) (fun j hj => by rw [hj]; exact (own_lt HO.out rfl).1)
            have t3 : (x.2 == (q : Int)) = true := by simp [hx]
            have t5 : (0 : Int) ≤ (k : Int) := by omega
            have t6 : (k : Int) < (k : Int) + 1 := by omega
            clear hf hfl hx
            go_wp2
            go_roundw
            case rel => exact ⟨(q : Int) + 1, S0 ++ [(x.1, (q : Int) + 1)], some ⟨G, 0, none⟩, c, by go_num, by rw [HL2.out], by omega, .inl (by omega), HI2, by rw [HL2.out]; exact HO2, HB2⟩
            case measure => simp [intOf]; omega
          · have HI2 := Lib.hid (HI.out.new (by omega) hai (by omega) hf (HI.out.last hx))
            have HL2 : Hid ((S0 ++ [x] ++ [((q : Int), (q : Int) + 1)]).length = k + 1 + 1) := by show _ = _; rw [List.length_append, HL.out]; rfl
            have t3 : (x.2 == (q : Int)) = false := by simpa using hx
            clear hf hfl hx
            go_wp2_with (at_builtin; refine wpList_app1 rfl _ _ 22 rfl w.heap.size 24 i0 (.agg #[.int .i64 0, .int .i64 0]) 2 16 Try.underlying22 HI0.out HZ0.out HZ1.out HZ2.out rfl _ (k + 1) _ rfl HO.out #[.int .i64 (q : Int), .int .i64 ((q : Int) + 1)] 1 rfl rfl (by intro u hu; simp at hu; rcases hu with rfl | rfl <;> rfl) (by omega) (by omega) hs ?_; rintro A2 c2 w2 hown2 hk2 - -)
            have HB2 : Hid (Below w.heap.size w w2) := bkeep HB.out hk2 (Nat.le_refl _) (fun k hk => (own_lt HO.out hk).1)
            have HO2 : Hid (w2.ownsRow w.heap.size 24 2 (.slice A2 (k + 1 + 1) c2) (k + 1 + 1) ((S0 ++ [x] ++ [((q : Int), (q : Int) + 1)]).flatMap pairCells)) := by
              show World.ownsRow ..
              rw [List.flatMap_append (xs := S0 ++ [x])]; exact hown2
            clear hown2 hk2
            go_wp2
            go_roundw
            case rel => exact ⟨(q : Int) + 1, S0 ++ [x] ++ [((q : Int), (q : Int) + 1)], A2, c2, by go_num, by rw [HL2.out], by omega, .inl (by omega), HI2, by rw [HL2.out]; exact HO2, HB2⟩
            case measure => simp [intOf]; omega
    · have HFIN : Hid (∀ n, cov S n = (inB a b n && (f n == vb))) := fun n => by
        rw [HI.out.2]
        have e : inB a i n = inB a b n := by
          rcases hib with h | h
          · rw [show i = b by omega]
          · subst h; unfold inB; rw [Bool.eq_iff_iff]; simp; omega
        rw [e]
      go_wp2
      go_ret
      exact ⟨S, A, c, rfl, HI.out.1, HFIN.out, HO.out, HB.out⟩
end Go.Proofs.Ytddoefkojlghnaa
