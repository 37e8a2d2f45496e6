import Derived.Test.YtlhocjimghcmjaaDrawsLaws
import Derived.Deep.RegionHeld3
namespace Go.Proofs.Ytlhocjimghcmjaa
open Go.RowKit
set_option linter.unusedVariables false
set_option linter.unusedSimpArgs false

set_option maxRecDepth 100000 in
set_option maxHeartbeats 1000000 in
theorem drawsAt_any (v : Value) (l : List Int) (i : Int) (w : World) (h : Reads w 1 v l.length (l.map (Value.int .u32))) (hu : U32 l) (hl : l.length * 4 ≤ 140737488351232) :
    Calls Try.prog 4 #[v, .int .i64 i] w fun e w' => e = .returned (.bool true) ∧ Below w.heap.size w w' := by
  have ha := awake10 w
  obtain ⟨A, c, rfl, -⟩ := h.val
  by_cases g1 : 100 < l.length
  · go_enter Try.func4, Try.ntmps4
    go_wp2_with (go_at_call 7; refine ha.mono ?_; rintro e w1 ⟨rfl, hb⟩)
    go_ret
    exact ⟨rfl, hb⟩
  clear ha
  obtain ⟨x, hx⟩ : ∃ x, x = atZ l i := ⟨_, rfl⟩
  have HX := Lib.hid hx
  have fin : ∀ (b : Nat) (w1 : World), DrawsAt w1 (Btw w.heap.size w1.heap.size) b l 0 → Calls Try.prog 10 #[.pointer (some ⟨b, 0, none⟩), .int .i64 i] w1 fun e w' => e = .returned (.int .u32 x) ∧ ∃ k, w' = w1.drewN k :=
    fun b w1 hd => by rw [hx]; exact at_any b _ l 0 i w1 hd (by omega)
  have FIN := Lib.hid fin
  clear hx fin
  by_cases g2 : i < 0 ∨ 65536 < i
  · obtain rfl : x = 0 := by rw [HX.out, atZ, if_pos g2]
    rcases (by omega : i < 0 ∨ (0 ≤ i ∧ 65536 < i)) with g3 | ⟨g3, g4⟩
    all_goals
      clear g2
      go_enter Try.func4, Try.ntmps4
      go_wp2_with fail
      refine (new_any _ l w h hl).mono ?_
      rintro e w1 ⟨b, rfl, hd, hb1⟩
      go_wp2_with fail
      refine (FIN.out b w1 hd).mono ?_
      rintro e w2 ⟨rfl, k, rfl⟩
      go_wp2_with fail
      refine (awake10 _).mono ?_
      rintro e w3 ⟨rfl, hb3⟩
      go_wp2
      go_ret
      exact ⟨rfl, bmore (below_drewN hb1 k) hb3 hb1.size⟩
  have g3 : 0 ≤ i := by omega
  have g4 : i ≤ 65536 := by omega
  clear g2
  obtain ⟨m, rfl⟩ := Int.eq_ofNat_of_zero_le g3
  by_cases g5 : 3000 < m
  · obtain ⟨y, hy⟩ : ∃ y, y = drawAt l (m - 1) := ⟨_, rfl⟩
    have hy2 := drawAt_u32 hu (m - 1)
    rw [← hy] at hy2
    have hxy : x = (1664525 * y + 1013904223) % 4294967296 := by
      rw [HX.out, atZ_nat l (by omega), drawAt_out (by omega), ahead, if_neg (by omega), hy]
    have fin2 : ∀ (b : Nat) (w1 : World), DrawsAt w1 (Btw w.heap.size w1.heap.size) b l 0 → ∀ k, Calls Try.prog 10 #[.pointer (some ⟨b, 0, none⟩), .int .i64 ((m : Int) - 1)] (w1.drewN k) fun e w' => e = .returned (.int .u32 y) ∧ ∃ q, w' = (w1.drewN k).drewN q :=
      fun b w1 hd k => by
        have := at_any b _ l 0 ((m : Int) - 1) (w1.drewN k) (hd.drewN k) (by omega)
        rw [show ((m : Int) - 1) = ((m - 1 : Nat) : Int) by omega, atZ_nat l (by omega), ← hy] at this
        rw [show ((m : Int) - 1) = ((m - 1 : Nat) : Int) by omega]
        exact this
    have FIN2 := Lib.hid fin2
    have hxy' : (x == (1664525 * y + 1013904223) % 4294967296) = true := by
      rw [beq_iff_eq, hxy]
    clear hy fin2 hxy
    go_enter Try.func4, Try.ntmps4
    go_wp2_with fail
    refine (new_any _ l w h hl).mono ?_
    rintro e w1 ⟨b, rfl, hd, hb1⟩
    go_wp2_with fail
    refine (FIN.out b w1 hd).mono ?_
    rintro e w2 ⟨rfl, k, rfl⟩
    go_wp2_with fail
    refine (FIN2.out b w1 hd k).mono ?_
    rintro e w3 ⟨rfl, q, rfl⟩
    go_wp2_with fail
    refine (awake10 _).mono ?_
    rintro e w4 ⟨rfl, hb4⟩
    go_wp2
    go_ret
    exact ⟨rfl, bmore (below_drewN hb1 (k + q)) hb4 hb1.size⟩
  · have hx : drawAt l m = x := by rw [HX.out, atZ_nat l (by omega)]
    have HX2 := Lib.hid hx
    clear hx
    go_enter Try.func4, Try.ntmps4
    go_wp2_with fail
    refine (new_any _ l w h hl).mono ?_
    rintro e w1 ⟨b, rfl, hd, hb1⟩
    go_wp2_with fail
    refine (FIN.out b w1 hd).mono ?_
    rintro e w2 ⟨rfl, k, rfl⟩
    have hd2 := hd.drewN k
    have hb2 := below_drewN hb1 k
    generalize w1.drewN k = w2 at *
    have hall := all_any _ l (m + 1) w2 (h.below hb2) (by omega) (by omega) hu
    rw [show ((m + 1 : Nat) : Int) = (m : Int) + 1 by omega] at hall
    go_wp2_with fail
    refine hall.mono ?_
    rintro e w3 ⟨A3, c3, rfl, ho, hb3⟩
    obtain ⟨g, o, c', he, hc⟩ := (Reads.of_owns ho).at m (.int .u32 x) (by simp [allD, HX2.out])
    cases he
    have hd3 := hd2.keep (Keep.none hb3) (fun _ _ h => h)
    clear ho hd2 hd hall
    go_wp2_with fail
    refine (told_any b _ l 0 _ hd3).mono ?_
    rintro e w4 ⟨rfl, rfl⟩
    go_wp2_with fail
    refine (awake10 _).mono ?_
    rintro e w5 ⟨rfl, hb5⟩
    go_wp2
    go_ret
    have q3 := bmore hb2 hb3 hb2.size
    exact ⟨rfl, bmore q3 hb5 q3.size⟩
end Go.Proofs.Ytlhocjimghcmjaa
