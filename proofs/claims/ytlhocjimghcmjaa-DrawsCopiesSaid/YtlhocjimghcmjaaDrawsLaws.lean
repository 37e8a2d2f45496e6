import Derived.Test.YtlhocjimghcmjaaDrawsAwake
namespace Go.Proofs.Ytlhocjimghcmjaa
open Go.RowKit
set_option linter.unusedVariables false
set_option linter.unusedSimpArgs false

theorem u32_of {l : List Int} (h : ∀ x ∈ l, (Lit.int .u32 x).wf = true) : U32 l := fun x hx => by
  have := h x hx
  simp [Lit.wf, IntKind.min, IntKind.max, IntKind.signed, IntKind.bits] at this
  omega
theorem u32_one {x : Int} (h : (Lit.int .u32 x).wf = true) : 0 ≤ x ∧ x < 4294967296 := by
  simp [Lit.wf, IntKind.min, IntKind.max, IntKind.signed, IntKind.bits] at h
  omega
theorem atZ_nat (l : List Int) {k : Nat} (h : k ≤ 65536) : atZ l (k : Int) = drawAt l k := by
  unfold atZ; rw [if_neg (by omega), Int.toNat_natCast]
theorem DrawsAt.drewN {F : Nat → Prop} {w : World} {b : Nat} {l : List Int} {t : Int} (h : DrawsAt w F b l t) (n : Nat) : DrawsAt (w.drewN n) F b l t :=
  h.keep (S := fun _ => False) ((Keep.refl _ _).drewN n) (fun _ _ h => h)

set_option maxRecDepth 100000 in
set_option maxHeartbeats 1000000 in
theorem drawsNext_any (v : Value) (l : List Int) (n : Int) (w : World) (h : Reads w 1 v l.length (l.map (Value.int .u32))) (hu : U32 l) (hl : l.length * 4 ≤ 140737488351232) :
    Calls Try.prog 3 #[v, .int .i64 n] w fun e w' => e = .returned (.bool true) ∧ Below w.heap.size w w' := by
  have ha := awake10 w
  obtain ⟨A, c, rfl, -⟩ := h.val
  by_cases g1 : 100 < l.length
  · go_enter Try.func3, Try.ntmps3
    go_wp2_with (go_at_call 7; refine ha.mono ?_; rintro e w1 ⟨rfl, hb⟩)
    go_ret
    exact ⟨rfl, hb⟩
  by_cases g2 : n < 0
  · go_enter Try.func3, Try.ntmps3
    go_wp2_with (go_at_call 7; refine ha.mono ?_; rintro e w1 ⟨rfl, hb⟩)
    go_ret
    exact ⟨rfl, hb⟩
  by_cases g3 : 300 < n
  · go_enter Try.func3, Try.ntmps3
    go_wp2_with (go_at_call 7; refine ha.mono ?_; rintro e w1 ⟨rfl, hb⟩)
    go_ret
    exact ⟨rfl, hb⟩
  obtain ⟨m, rfl⟩ := Int.eq_ofNat_of_zero_le (Int.not_lt.1 g2)
  clear ha
  go_enter Try.func3, Try.ntmps3
  go_wp2_with fail
  refine (new_any _ l w h hl).mono ?_
  rintro e w1 ⟨b, rfl, hd, hb1⟩
  have h1 := h.below hb1
  go_wp2_with fail
  refine (all_any _ l m w1 h1 (by omega) (by omega) hu).mono ?_
  rintro e w2 ⟨A2, c2, rfl, ho, hb2⟩
  have hd2 := hd.keep (Keep.none hb2) (fun _ _ h => h)
  have q2 := bmore hb1 hb2 hb1.size
  go_wp2_with fail
  go_loopw [28] (fun i wr => ∃ k : Nat, k ≤ m ∧ i = .int .i64 k ∧ Hid (DrawsAt wr (Btw w.heap.size w1.heap.size) b l k) ∧ Hid (wr.ownsRow w1.heap.size 27 1 (.slice A2 m c2) m ((allD l m).map (Value.int .u32))) ∧ Below w.heap.size w wr ∧ w1.heap.size ≤ wr.heap.size) (fun i _ => m - (intOf i).toNat)
  case atStart => exact ⟨0, by omega, rfl, hd2, ho, q2, hb2.size⟩
  case round =>
    obtain ⟨k, hk, rfl, hdr, hor, hb, hs⟩ := hrel
    by_cases hlt : k < m
    · obtain ⟨g, o, c', he, hc⟩ := (Reads.of_owns hor.out).at k (.int .u32 (drawAt l k)) (by simp [allD, hlt])
      cases he
      have hat := at_any b _ l k k wr hdr.out (by omega)
      rw [atZ_nat l (by omega)] at hat
      clear ho h hd hd2 h1
      go_wp2_with fail
      refine hat.mono ?_
      rintro e w3 ⟨rfl, q, rfl⟩
      go_wp2_with fail
      refine (told_any b _ l k _ (hdr.out.drewN q)).mono ?_
      rintro e w4 ⟨rfl, rfl⟩
      go_wp2_with fail
      refine (next_any b _ l k _ (hdr.out.drewN q) (by omega) (by omega)).mono ?_
      rintro e w5 ⟨rfl, hd5, k5⟩
      have k5' := ((Keep.refl (Btw w.heap.size w1.heap.size) wr).drewN q).trans k5 (fun _ _ h => h)
      go_wp2_with fail
      go_roundw
      case rel => exact ⟨k + 1, by omega, by go_num, hd5, ownsRow_keep hor.out k5' (fun g hg hF => by have := (hor.out.lt g hg).1; have := hF.2; omega), bkeep hb k5' (Nat.le_refl _) (fun k hk => hk.1), Nat.le_trans hs k5'.size⟩
      case measure => simp [intOf]; omega
    · obtain rfl : k = m := by omega
      have hwk := awake10 wr
      go_wp2_with fail
      refine (told_any b _ l k _ hdr.out).mono ?_
      rintro e w4 ⟨rfl, rfl⟩
      go_wp2_with fail
      refine hwk.mono ?_
      rintro e w5 ⟨rfl, hb5⟩
      go_wp2
      go_ret
      exact ⟨rfl, bmore hb hb5 hb.size⟩
end Go.Proofs.Ytlhocjimghcmjaa
