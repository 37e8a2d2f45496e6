/- gaps: the reference: Miss, where its list lies. -/
import Derived.Test.YtkgngmmlfoiajaaGapsRef2
namespace Go.Proofs.Ytkgngmmlfoiajaa
open Go.RowKit
set_option linter.unusedVariables false
set_option linter.unusedSimpArgs false

set_option maxRecDepth 100000 in
set_option maxHeartbeats 4000000 in
theorem rmiss2_any (K : Nat) (A : Option Addr) (c : Nat) (l : List Hole) (a B due f : Int) (w : World) (h : Reads w 4 (.slice A l.length c) l.length (l.flatMap holeCells)) (hr : Rl K l) (hn : l.length ≤ 50000) (ha : 0 ≤ a) (hab : a ≤ B) (hB : B ≤ 16384) (hd1 : 0 ≤ due) (hd2 : due ≤ 1099511627776) (hf1 : 1 ≤ f) (hf2 : f ≤ 1048576) :
    Calls Try.prog 24 #[.slice A l.length c, .int .i64 a, .int .i64 B, .int .i64 due, .int .i64 f] w fun e w' => ∃ A' c', e = .returned (.tuple #[.slice A' (missN l a due f (B - a).toNat).1.length c', .int .i64 (missN l a due f (B - a).toNat).2]) ∧
      (∀ g, (Value.slice A' (missN l a due f (B - a).toNat).1.length c').ownBlock = some g → (Value.slice A l.length c).ownBlock = some g ∨ (w.heap.size ≤ g ∧ g < w'.heap.size)) ∧
      RAt w w' (.slice A' (missN l a due f (B - a).toNat).1.length c') (missN l a due f (B - a).toNat).1 := by
  have HMR : Hid (∀ k : Nat, a + k ≤ B → Rl K (missN l a due f k).1 ∧ (missN l a due f k).1.length ≤ l.length + k ∧ (missN l a due f k).2 ≤ k) := fun k hk => missN_rl hr ha hd1 hd2 hf1 hf2 (by omega)
  obtain ⟨i0, hi, hz0, hz1, hz2⟩ := info_parts info_rhole
  have HX := Lib.hid h
  clear h hr
  obtain ⟨m, hm⟩ : ∃ m : Nat, m = (B - a).toNat := ⟨_, rfl⟩
  rw [← hm]
  have hmB : a + (m : Int) = B := by omega
  have HMB := Lib.hid hmB
  clear hm hmB
  go_enter Try.func24, Try.ntmps24
  go_wp2
  go_loopw [0, 12, 13, 14, 15, 16] (fun lv n bl _ _ _ wr => ∃ (k : Nat) (x : Int) (q n1 : Nat) (A1 : Option Addr) (c1 : Nat), x ≤ B ∧ a ≤ x ∧ Hid (x = a + k) ∧ Hid (q = (missN l a due f k).2) ∧ Hid (n1 = (missN l a due f k).1.length) ∧ bl = .int .i64 x ∧ n = .int .i64 q ∧ lv = .slice A1 n1 c1 ∧
    Hid (Reads wr 4 (.slice A1 n1 c1) n1 ((missN l a due f k).1.flatMap holeCells)) ∧ Hid (∀ g, (Value.slice A1 n1 c1).ownBlock = some g → (Value.slice A l.length c).ownBlock = some g ∨ (w.heap.size ≤ g ∧ g < wr.heap.size)) ∧ Below w.heap.size w wr) (fun _ _ bl _ _ _ _ => (B - intOf bl).toNat)
  case atStart => exact ⟨0, a, 0, l.length, A, c, hab, Int.le_refl _, Lib.hid (by simp), Lib.hid rfl, Lib.hid rfl, rfl, rfl, rfl, HX, Lib.hid (fun g hg => .inl hg), Below.refl _ _⟩
  case round =>
    obtain ⟨k, x, q, n1, A1, c1, hxB, hax, HKX, HQ, HN1, rfl, rfl, rfl, HR, HW, hb⟩ := hrel
    by_cases hlt : x < B
    · obtain ⟨hrl, hlen, hqk⟩ := HMR.out k (by have := HKX.out; omega)
      have hkB : k ≤ 16384 := by have := HKX.out; omega
      have hsn : missN l a due f (k + 1) = if has (missN l a due f k).1 x then missN l a due f k else (ins ⟨x, due, f, 0⟩ (missN l a due f k).1, (missN l a due f k).2 + 1) := by rw [HKX.out]; rfl
      rw [← HQ.out] at hqk
      obtain ⟨l1, hl1⟩ : ∃ l1, l1 = (missN l a due f k).1 := ⟨_, rfl⟩
      rw [← hl1] at hrl hlen hsn HR HN1
      rw [← HN1.out] at hlen
      have HSN := Lib.hid hsn
      have HL1 := Lib.hid hl1
      have HF := Lib.hid (rfind_any A1 c1 n1 l1 x wr HR.out HN1.out (by omega))
      have HRL := Lib.hid hrl
      clear hsn hl1 hrl
      go_wp2_with fail
      refine HF.out.mono ?_
      rintro e w1 ⟨z, hz, rfl, rfl⟩
      have hzz := hz.ge
      clear hz HF
      cases hs : has l1 x
      · rw [hs] at hzz
        have hzn : z < 0 := by have := of_decide_eq_false hzz; omega
        have HN : Hid ((missN l a due f (k + 1)).1 = ins ⟨x, due, f, 0⟩ l1 ∧ (missN l a due f (k + 1)).2 = q + 1) := by
          rw [HSN.out, hs, HQ.out]; exact ⟨rfl, rfl⟩
        clear hs hzz
        go_wp2_with fail
        obtain ⟨w0, hw0⟩ : ∃ w0 : World, w0 = wr := ⟨_, rfl⟩
        rw [← hw0] at HR hb
        have hbs := hb.size
        have HW0 := Lib.hid hw0
        have hb0 : Below w0.heap.size w0 wr := by rw [hw0]; exact Below.refl _ _
        clear hw0
        go_loopw [14, 15, 16] (fun o d i wi => ∃ j : Nat, j ≤ n1 ∧ i = .int .i64 j ∧ d = .bool (gt1 ⟨x, due, f, 0⟩ (l1.take j)) ∧ Hid (wi.ownsRow w0.heap.size 49 4 o (outL ⟨x, due, f, 0⟩ (l1.take j)).length ((outL ⟨x, due, f, 0⟩ (l1.take j)).flatMap holeCells)) ∧ Below w0.heap.size w0 wi) (fun _ _ i _ => n1 - (intOf i).toNat)
        case atStart => exact ⟨0, by omega, rfl, rfl, World.ownsRow_nil _ _ _ _, hb0⟩
        case round =>
          obtain ⟨j, hj, rfl, rfl, hown, hbi⟩ := hrel
          have hsi := hbi.size
          by_cases hjl : j < n1
          · obtain ⟨o, ho⟩ : ∃ o, l1[j]? = some o := ⟨_, List.getElem?_eq_getElem (by rw [← HN1.out]; exact hjl)⟩
            obtain ⟨g1, p1, c2, he1, hcs⟩ := Reads.elem (HR.out.below hbi) holeCells_len (by omega) ho
            have a0 := hcs 0 _ rfl
            have a1 := hcs 1 _ rfl
            have a2 := hcs 2 _ rfl
            have a3 := hcs 3 _ rfl
            cases he1
            simp only [Nat.add_zero] at a0
            have i1 : (0 : Int) ≤ (j : Int) := by omega
            have i2 : (j : Int) < (n1 : Int) := by omega
            have hol : (outL ⟨x, due, f, 0⟩ (l1.take j)).length ≤ 100000 := Nat.le_trans outL_len (by rw [List.length_take]; omega)
            have htk : l1.take (j + 1) = l1.take j ++ [o] := by rw [List.take_add_one, ho]; rfl
            cases hgt : gt1 ⟨x, due, f, 0⟩ (l1.take j)
            · by_cases hxo : x < o.block
              · have HE := Lib.hid (outL_first (t := ⟨x, due, f, 0⟩) (a := o) hgt hxo)
                rw [← htk] at HE
                have HOJ := Lib.hid ho
                clear hgt htk ho hcs
                go_wp2_with (at_builtin; first
                  | (refine wpList_app1 rfl _ _ 42 rfl w0.heap.size 49 i0 _ 4 32 Try.underlying42 hi hz0 hz1 hz2 rfl _ _ _ rfl (Hid.out hown) #[.int .i64 x, .int .i64 due, .int .i64 f, .int .i64 0] 1 rfl rfl (four_one _ _ _ _) (by omega) (by omega) hsi ?_; rintro A2 c2 w2 hown2 hk2 - -
                     have HB2 : Hid (Below w0.heap.size w0 w2) := hbi.trans (hk2.below (fun g hg => ((Hid.out hown).lt g hg).1) hsi)
                     have HO2 : Hid (w2.ownsRow w0.heap.size 49 4 (.slice A2 ((outL ⟨x, due, f, 0⟩ (l1.take j)).length + 1) c2) ((outL ⟨x, due, f, 0⟩ (l1.take j)).length + 1) ((outL ⟨x, due, f, 0⟩ (l1.take j) ++ [(⟨x, due, f, 0⟩ : Hole)]).flatMap holeCells)) := by
                       show World.ownsRow ..
                       rw [flat_snoc]; exact hown2
                     have hsi2 : w0.heap.size ≤ w2.heap.size := HB2.out.size
                     have hol2 : (outL ⟨x, due, f, 0⟩ (l1.take j)).length + 1 ≤ 200000 := by omega
                     have ho3 : l1[j]? = some o := HOJ.out
                     obtain ⟨g1', p1', c2', he1', hcs'⟩ := Reads.elem (HR.out.below HB2.out) holeCells_len (by omega) ho3
                     cases he1'
                     have b0 := hcs' 0 _ rfl
                     have b1 := hcs' 1 _ rfl
                     have b2 := hcs' 2 _ rfl
                     have b3 := hcs' 3 _ rfl
                     simp only [Nat.add_zero] at b0
                     clear hown2 hk2 hcs' ho3 a0 a1 a2 a3)
                  | (refine wpList_app1 rfl _ _ 42 rfl w0.heap.size 49 i0 _ 4 32 Try.underlying42 hi hz0 hz1 hz2 rfl _ _ _ rfl HO2.out #[.int .i64 o.block, .int .i64 o.due, .int .i64 o.wait, .int .i64 o.tries] 1 rfl rfl (four_one _ _ _ _) (by omega) (by omega) hsi2 ?_; rintro A3 c3 w3 hown3 hk3 - -))
                have hb3 : Below w0.heap.size w0 w3 := HB2.out.trans (hk3.below (fun g hg => (HO2.out.lt g hg).1) hsi2)
                have HO3 : Hid (w3.ownsRow w0.heap.size 49 4 (.slice A3 ((outL ⟨x, due, f, 0⟩ (l1.take j)).length + 1 + 1) c3) (outL ⟨x, due, f, 0⟩ (l1.take (j + 1))).length ((outL ⟨x, due, f, 0⟩ (l1.take (j + 1))).flatMap holeCells)) := by
                  show World.ownsRow ..
                  rw [HE.out.1, flat_snoc, List.length_append, List.length_append]; exact hown3
                have hgt2 : Hid (gt1 ⟨x, due, f, 0⟩ (l1.take (j + 1)) = true) := HE.out.2
                clear hown3 hk3
                go_wp2
                go_roundw
                case rel => exact ⟨j + 1, by omega, by go_num, by rw [hgt2.out], HO3, hb3⟩
                case measure => simp [intOf]; omega
              · have HE := Lib.hid (outL_stay (t := ⟨x, due, f, 0⟩) (a := o) hgt hxo)
                have hxo' : o.block ≤ x := by omega
                rw [← htk] at HE
                clear hgt htk ho hcs hxo
                go_wp2_with (at_builtin; refine wpList_app1 rfl _ _ 42 rfl w0.heap.size 49 i0 _ 4 32 Try.underlying42 hi hz0 hz1 hz2 rfl _ _ _ rfl (Hid.out hown) #[.int .i64 o.block, .int .i64 o.due, .int .i64 o.wait, .int .i64 o.tries] 1 rfl rfl (four_one _ _ _ _) (by omega) (by omega) hsi ?_; rintro A2 c2 w2 hown2 hk2 - -)
                have hb2 : Below w0.heap.size w0 w2 := hbi.trans (hk2.below (fun g hg => ((Hid.out hown).lt g hg).1) hsi)
                have HO : Hid (w2.ownsRow w0.heap.size 49 4 (.slice A2 ((outL ⟨x, due, f, 0⟩ (l1.take j)).length + 1) c2) (outL ⟨x, due, f, 0⟩ (l1.take (j + 1))).length ((outL ⟨x, due, f, 0⟩ (l1.take (j + 1))).flatMap holeCells)) := by
                  show World.ownsRow ..
                  rw [HE.out.1, flat_snoc, List.length_append]; exact hown2
                have hgt2 : Hid (gt1 ⟨x, due, f, 0⟩ (l1.take (j + 1)) = false) := HE.out.2
                clear hown2 hk2
                go_wp2
                go_roundw
                case rel => exact ⟨j + 1, by omega, by go_num, by rw [hgt2.out], HO, hb2⟩
                case measure => simp [intOf]; omega
            · have HE := Lib.hid (outL_done (t := ⟨x, due, f, 0⟩) (a := o) hgt)
              rw [← htk] at HE
              clear hgt htk ho hcs
              go_wp2_with (at_builtin; refine wpList_app1 rfl _ _ 42 rfl w0.heap.size 49 i0 _ 4 32 Try.underlying42 hi hz0 hz1 hz2 rfl _ _ _ rfl (Hid.out hown) #[.int .i64 o.block, .int .i64 o.due, .int .i64 o.wait, .int .i64 o.tries] 1 rfl rfl (four_one _ _ _ _) (by omega) (by omega) hsi ?_; rintro A2 c2 w2 hown2 hk2 - -)
              have hb2 : Below w0.heap.size w0 w2 := hbi.trans (hk2.below (fun g hg => ((Hid.out hown).lt g hg).1) hsi)
              have HO : Hid (w2.ownsRow w0.heap.size 49 4 (.slice A2 ((outL ⟨x, due, f, 0⟩ (l1.take j)).length + 1) c2) (outL ⟨x, due, f, 0⟩ (l1.take (j + 1))).length ((outL ⟨x, due, f, 0⟩ (l1.take (j + 1))).flatMap holeCells)) := by
                show World.ownsRow ..
                rw [HE.out.1, flat_snoc, List.length_append]; exact hown2
              have hgt2 : Hid (gt1 ⟨x, due, f, 0⟩ (l1.take (j + 1)) = true) := HE.out.2
              clear hown2 hk2
              go_wp2
              go_roundw
              case rel => exact ⟨j + 1, by omega, by go_num, by rw [hgt2.out], HO, hb2⟩
              case measure => simp [intOf]; omega
          · obtain rfl : j = n1 := by omega
            have htk : l1.take j = l1 := List.take_of_length_le (by rw [← HN1.out]; omega)
            have hol : (outL ⟨x, due, f, 0⟩ l1).length ≤ 100000 := Nat.le_trans outL_len (by rw [← HN1.out]; omega)
            rw [htk] at hown
            have HTK := Lib.hid htk
            obtain ⟨oe1, oe2⟩ := outL_end (t := ⟨x, due, f, 0⟩) (l := l1)
            have hbw := bmore hb hbi hbs
            cases hgt : gt1 ⟨x, due, f, 0⟩ (l1.take j)
            · rw [htk] at hgt
              have HOE := Lib.hid (oe2 hgt)
              clear htk oe1 oe2 hgt
              go_wp2_with (at_builtin; refine wpList_app1 rfl _ _ 42 rfl w0.heap.size 49 i0 _ 4 32 Try.underlying42 hi hz0 hz1 hz2 rfl _ _ _ rfl (Hid.out hown) #[.int .i64 x, .int .i64 due, .int .i64 f, .int .i64 0] 1 rfl rfl (four_one _ _ _ _) (by omega) (by omega) hsi ?_; rintro A2 c2 w2 hown2 hk2 - -)
              have hb2 : Below w.heap.size w w2 := bmore hbw (hk2.below (fun g hg => ((Hid.out hown).lt g hg).1) hsi) hbs
              have hro : w2.ownsRow w0.heap.size 49 4 (.slice A2 ((outL ⟨x, due, f, 0⟩ l1).length + 1) c2) (ins ⟨x, due, f, 0⟩ l1).length ((ins ⟨x, due, f, 0⟩ l1).flatMap holeCells) := by
                rw [HOE.out, flat_snoc, List.length_append]; exact hown2
              have hle : (ins ⟨x, due, f, 0⟩ l1).length = (outL ⟨x, due, f, 0⟩ l1).length + 1 := by rw [HOE.out, List.length_append]; rfl
              have HLE := Lib.hid hle
              have HRO := Lib.hid hro
              clear hown2 hk2 hro hle
              go_wp2
              go_roundw
              case rel => exact ⟨k + 1, x + 1, q + 1, _, A2, c2, by omega, by omega, Lib.hid (by have := HKX.out; omega), Lib.hid HN.out.2.symm, Lib.hid (by rw [HN.out.1]; exact HLE.out.symm), rfl, by go_num, rfl, Lib.hid (by rw [HN.out.1]; rw [← HLE.out]; exact Reads.of_owns (by rw [HLE.out]; rw [HLE.out] at HRO; exact HRO.out)), Lib.hid (fun g hg => .inr ⟨Nat.le_trans hbs (HRO.out.lt g hg).1, (HRO.out.lt g hg).2⟩), hb2⟩
              case measure => simp [intOf]; omega
            · rw [htk] at hgt
              have HOE := Lib.hid (oe1 hgt)
              clear htk oe1 oe2 hgt
              obtain ⟨A2, c2, ho2⟩ := ownsRow_slice (Hid.out hown)
              subst ho2
              have HRO := Lib.hid (Hid.out hown)
              clear hown
              go_wp2
              go_roundw
              case rel => exact ⟨k + 1, x + 1, q + 1, _, A2, c2, by omega, by omega, Lib.hid (by have := HKX.out; omega), Lib.hid HN.out.2.symm, Lib.hid (by rw [HN.out.1, HOE.out]), rfl, by go_num, rfl, Lib.hid (by rw [HN.out.1, HOE.out]; exact Reads.of_owns HRO.out), Lib.hid (fun g hg => .inr ⟨Nat.le_trans hbs (HRO.out.lt g hg).1, (HRO.out.lt g hg).2⟩), hbw⟩
              case measure => simp [intOf]; omega
      · rw [hs] at hzz
        have hzn : 0 ≤ z := of_decide_eq_true hzz
        have HN : Hid (missN l a due f (k + 1) = missN l a due f k) := by
          show _ = _
          rw [HSN.out, hs]; rfl
        clear hs hzz
        go_wp2_with fail
        go_roundw
        case rel => exact ⟨k + 1, x + 1, q, n1, A1, c1, by omega, by omega, Lib.hid (by have := HKX.out; omega), Lib.hid (by rw [HN.out]; exact HQ.out), Lib.hid (by rw [HN.out, ← HL1.out]; exact HN1.out), rfl, rfl, rfl, Lib.hid (by rw [HN.out, ← HL1.out]; exact HR.out), HW, hb⟩
        case measure => simp [intOf]; omega
    · obtain rfl : x = B := by omega
      have hkm : k = m := by have := HKX.out; have := HMB.out; omega
      subst hkm
      go_wp2
      go_ret2
      refine ⟨A1, c1, ?_, ?_, ⟨?_, hb⟩⟩
      · rw [← HQ.out, ← HN1.out]; rfl
      · rw [← HN1.out]; exact HW.out
      · rw [← HN1.out]; exact HR.out
end Go.Proofs.Ytkgngmmlfoiajaa
