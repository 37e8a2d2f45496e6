/- build: the law's awake. -/
import Derived.Test.YthjlbbbkghigfaaBuild7
namespace Go.Proofs.Ythjlbbbkghigfaa
open Go.RowKit
set_option linter.unusedVariables false
set_option linter.unusedSimpArgs false

theorem own_new {x : BuS} {w : World} (h : BuAt w x) {n c : Nat} : ∀ g, (Value.slice (some ⟨w.heap.size, 0, none⟩) n c).ownBlock = some g → ¬ BuSet x g := by
  intro g hg e
  have hg : g = w.heap.size := by cases hg; rfl
  have hl := h.lts
  rcases e with e | e | e | e | e
  · omega
  · omega
  · have := hl.2.2.2.1 _ e; omega
  · have := hl.2.2.2.2.1 _ e; omega
  · have := hl.2.2.2.2.2 _ e; omega
/-- what the puts leave, as seen from far ahead -/
theorem PutR.far {x x' : BuS} {block tick : Int} {bs : List Int} {B : Nat} {w0 w w' : World} (h : PutR x block tick bs w w' x') (hb : Below B w0 w) (hB : B ≤ w0.heap.size) (hn : BuNew x B) : Below B w0 w' ∧ BuNew x' B :=
  ⟨bkeep hb (h.keep) hB (fun q hq => BuSet.new hn hq), h.fresh B (Nat.le_trans hB hb.size) hn⟩
set_option maxRecDepth 100000 in
set_option maxHeartbeats 2000000 in
theorem awake_any (w : World) : Calls Try.prog 8 #[] w fun e w' => e = .returned (.bool true) ∧ Below w.heap.size w w' := by
  have kc := fun (w : World) (C : Array Value) (n c : Nat) => Lib.run_convert_bytes_const (P := Try.prog) w 32 5 C n c Try.underlying32 Try.underlying5
  have HNY := Lib.hid (bnew_yes 5 2 1 w ⟨by omega, by omega, by omega, by omega, by omega⟩)
  have HNN := Lib.hid (fun w => bnew_no 5 0 1 w (by decide))
  go_enter Try.func8, Try.ntmps8
  go_wp2_with fail
  refine HNY.out.mono ?_
  rintro e w1 ⟨x, rfl, h1, e1, n1, b1⟩
  obtain ⟨s1, s2, s3, s4, s5, s6, s7⟩ := e1.out
  have P1 : putE x 0 1 2 = 0 := by unfold putE; rw [s1, s2, s4, s7]; rfl
  have P1H := Lib.hid P1
  have b1' := Lib.hid (b1.out.alloc b1.out.size (.cells #[.int .u8 97, .int .u8 98] 5 (2, 3)))
  have h1' := Lib.hid (h1.out.below ((Below.refl _ w1).alloc (Nat.le_refl _) (.cells #[.int .u8 97, .int .u8 98] 5 (2, 3))))
  have s6' : x.log.length ≤ 100000 := by rw [s6]; decide
  clear s3 s5 s6 P1
  go_wp2_with fail
  refine (put_any x 0 1 _ [97, 98] _ h1'.out (reads_newm w1 #[.int .u8 97, .int .u8 98] 5 (2, 3) 2 rfl (by omega)) (own_new h1.out) s6').mono ?_
  rintro e w2 ⟨x1, rfl, r1⟩
  have R1 := Lib.hid r1
  have he1 : putE x 0 1 ([97, 98] : List Int).length = 0 := P1H.out
  rw [he1]
  have y1 := Lib.hid (r1.yes he1)
  have f1 := Lib.hid (r1.far b1'.out (Nat.le_refl _) n1.out)
  clear r1 he1 P1H s1 s2 s4 s7 s6'
  have P2 : putE x1 2 2 1 = 0 := by
    unfold putE
    obtain ⟨-, -, -, t1, t2, t3, t4⟩ := R1.out.same
    rw [t1, t2, t4, e1.out.1, e1.out.2.1, e1.out.2.2.2.2.2.2, (y1.out.1 2), e1.out.2.2.2.1]
    rfl
  have P2H := Lib.hid P2
  have h2' := Lib.hid (R1.out.at_.below ((Below.refl _ w2).alloc (Nat.le_refl _) (.cells #[.int .u8 101] 5 (1, 2))))
  have l2 : x1.log.length ≤ 100000 := by rw [y1.out.2.2, e1.out.2.2.2.2.2.1]; simp
  have b2' := Lib.hid (f1.out.1.alloc f1.out.1.size (.cells #[.int .u8 101] 5 (1, 2)))
  have xb1 : x1.b = x.b := R1.out.same.1
  have XB1 := Lib.hid xb1
  clear P2 xb1
  go_wp2_with fail
  have hp2 := put_any x1 2 2 _ [101] _ h2'.out (reads_newm w2 #[.int .u8 101] 5 (1, 2) 1 rfl (by omega)) (own_new R1.out.at_) l2
  rw [XB1.out] at hp2
  refine hp2.mono ?_
  rintro e w3 ⟨x2, rfl, r2⟩
  have R2 := Lib.hid r2
  have he2 : putE x1 2 2 ([101] : List Int).length = 0 := P2H.out
  rw [he2]
  have y2 := Lib.hid (r2.yes he2)
  have f2 := Lib.hid (r2.far b2'.out (Nat.le_refl _) f1.out.2)
  clear r2 he2 P2H hp2 l2
  have P3 : putE x2 2 2 1 = 13 := by
    unfold putE
    obtain ⟨-, -, -, t1, t2, t3, t4⟩ := R1.out.same
    obtain ⟨-, -, -, u1, u2, u3, u4⟩ := R2.out.same
    rw [u1, u2, u4, t1, t2, t4, e1.out.1, e1.out.2.1, e1.out.2.2.2.2.2.2, (y2.out.1 2), (y1.out.1 2), e1.out.2.2.2.1]
    rfl
  have P3H := Lib.hid P3
  have h3' := Lib.hid (R2.out.at_.below ((Below.refl _ w3).alloc (Nat.le_refl _) (.cells #[.int .u8 101] 5 (1, 2))))
  have l3 : x2.log.length ≤ 100000 := by rw [y2.out.2.2, y1.out.2.2, e1.out.2.2.2.2.2.1]; simp
  have b3' := Lib.hid (f2.out.1.alloc f2.out.1.size (.cells #[.int .u8 101] 5 (1, 2)))
  have XB2 := Lib.hid (R2.out.same.1.trans XB1.out)
  clear P3
  go_wp2_with fail
  have hp3 := put_any x2 2 2 _ [101] _ h3'.out (reads_newm w3 #[.int .u8 101] 5 (1, 2) 1 rfl (by omega)) (own_new R2.out.at_) l3
  rw [XB2.out] at hp3
  refine hp3.mono ?_
  rintro e w4 ⟨x3, rfl, r3⟩
  have R3 := Lib.hid r3
  have he3 : putE x2 2 2 ([101] : List Int).length = 13 := P3H.out
  rw [he3]
  have y3 := Lib.hid (r3.no (by rw [he3]; decide))
  have f3 := Lib.hid (r3.far b3'.out (Nat.le_refl _) f2.out.2)
  clear r3 he3 P3H hp3 l3
  have XB3 := Lib.hid (R3.out.same.1.trans XB2.out)
  have hs : x3.s = 5 ∧ x3.k = 2 ∧ x3.n = 1 := by
    obtain ⟨-, -, -, t1, t2, t3, t4⟩ := R1.out.same
    obtain ⟨-, -, -, u1, u2, u3, u4⟩ := R2.out.same
    obtain ⟨-, -, -, v1, v2, v3, v4⟩ := R3.out.same
    rw [v1, v2, v3, u1, u2, u3, t1, t2, t3]
    exact ⟨e1.out.1, e1.out.2.1, e1.out.2.2.1⟩
  have hcv : ∀ t, cov x3.L t = (decide (t = 0) || decide (t = 2)) := fun t => by
    rw [y3.out.1, y2.out.1, y1.out.1, e1.out.2.2.2.1]
    simp [cov]
  have htx : x3.text = [97, 98, 0, 0, 101] := by
    rw [y3.out.2.1, y2.out.2.1, y1.out.2.1, e1.out.2.2.2.2.1, R1.out.same.2.2.2.2.1, e1.out.2.1]
    rfl
  have hM : Good (-1) [((1 : Int), (2 : Int))] := ⟨by decide, by decide, by decide, trivial⟩
  have hC : ∀ (m : Int), 0 ≤ m → ∀ i, cov [((1 : Int), (2 : Int))] i = (uptoB x3.n m (nb x3.s x3.k) i && !cov x3.L i) := fun m hm i => by
    rw [hcv, hs.1, hs.2.1, hs.2.2, cov_one]
    unfold uptoB
    rw [show ((nb 5 2 : Nat) : Int) = 3 from rfl, show lyr 1 i.toNat = 0 by unfold lyr; rw [show 2 ^ (1 - 1) = 1 from rfl, Nat.mod_one]; rfl]
    rw [Bool.eq_iff_iff]
    simp
    omega
  have HLK := Lib.hid (fun w h => lacking_any x3 0 w h _ hM (hC 0 (by omega)))
  have HCP := Lib.hid (fun w h => complete_any x3 0 w h _ hM (hC 0 (by omega)))
  have HPF := Lib.hid (fun w h => prefix_any x3 w h _ hM (hC x3.n (by omega)))
  have HBY := Lib.hid (fun w h => bbytes_any x3 w h)
  have hpi : prefI x3 [(1, 2)] = 2 := by unfold prefI spanP; rw [hs.2.1]; rfl
  have hsp : spanP x3 (1, 2) = (2, 4) := by unfold spanP; rw [hs.1, hs.2.1]; rfl
  have HSP := Lib.hid hsp
  rw [hpi] at HPF
  rw [htx, hs.1] at HBY
  rw [XB3.out] at HLK HCP HPF HBY
  clear hs hcv htx hM hC hpi hsp y1 y2 y3 e1
  go_wp2_with fail
  refine (HLK.out w4 R3.out.at_).mono ?_
  rintro e w5 ⟨A5, c5, rfl, ho5, hb5⟩
  have H5 := Lib.hid (R3.out.at_.below hb5)
  have HRD := Lib.hid (Reads.of_owns ho5)
  have f5 := Lib.hid (bmore f3.out.1 hb5 f3.out.1.size)
  clear ho5 hb5
  go_wp2_with fail
  refine (HNN.out w5).mono ?_
  rintro e w6 ⟨rfl, rfl⟩
  have hr := HRD.out
  rw [List.map_cons] at hr
  obtain ⟨g, o, cc, he, z0, z1⟩ := hr.pair (k := 0) (x := spanP x3 (1, 2)) rfl
  cases he
  have z2 : w6.cell? ⟨g, o, none⟩ = some (.int .i64 2) := by rw [HSP.out] at z0; simpa using z0
  have z3 : w6.cell? ⟨g, o + 1, none⟩ = some (.int .i64 4) := by rw [HSP.out] at z1; simpa using z1
  have pe := fun w => pair_eq 2 4 2 4 w
  clear hr z0 z1
  go_wp2_with fail
  refine (HPF.out w6 H5.out).mono ?_
  rintro e w7 ⟨rfl, hb7⟩
  have H7 := Lib.hid (H5.out.below hb7)
  have f7 := Lib.hid (bmore f5.out hb7 f5.out.size)
  clear hb7
  go_wp2_with fail
  refine (HCP.out w7 H7.out).mono ?_
  rintro e w8 ⟨rfl, hb8⟩
  have H8 := Lib.hid (H7.out.below hb8)
  have f8 := Lib.hid (bmore f7.out hb8 f7.out.size)
  clear hb8
  go_wp2_with fail
  refine (HBY.out w8 H8.out).mono ?_
  rintro e w9 ⟨A9, c9, rfl, ho9, hb9⟩
  have f9 := Lib.hid (bmore f8.out hb9 f8.out.size)
  have k4 := conv_ints (Reads.of_owns ho9)
  rw [abe_str] at k4
  clear ho9 hb9
  go_wp2
  go_ret
  exact ⟨rfl, f9.out⟩
end Go.Proofs.Ythjlbbbkghigfaa
