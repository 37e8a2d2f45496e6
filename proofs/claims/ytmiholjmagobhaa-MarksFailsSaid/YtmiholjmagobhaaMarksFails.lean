/- marks: the law Fails is walked. -/
import Derived.Test.YtmiholjmagobhaaMarksLaws
namespace Go.Proofs.Ytmiholjmagobhaa
open Go.RowKit
set_option linter.unusedVariables false
set_option linter.unusedSimpArgs false

structure FI (c : Cho) (now W longest : Int) : Prop where
  level : c.level = 0
  till : c.till 1 ≤ now
  wait : c.wait 1 = W
  longest : c.longest = longest
  fresh : c.fresh = 5
  ok : c.Ok
def fi1 (c : Cho) (now : Int) : Cho := { c with join := upd c.join 1 now }.to 1 1
def fi2 (c : Cho) (now : Int) : Cho := (fi1 c now).drop (now + 3)
theorem fi_m1 {c : Cho} {now W longest : Int} (h : FI c now W longest) (h0 : 0 ≤ now) (h1 : now ≤ 1000000000) : c.mark 1 [1, 2] 2 now = (fi1 c now, 1) := by
  have := h.till
  unfold Cho.mark
  rw [if_neg (by simp; omega), if_neg (by rw [h.level]; omega), if_pos ⟨by rw [h.level]; omega, by omega, by simp, by simpa using this⟩]
  rfl
theorem fi_m2 {c : Cho} {now W longest : Int} (h : FI c now W longest) (h0 : 0 ≤ now) (h1 : now ≤ 1000000000) : (fi1 c now).mark 1 [1, 2] 1 (now + 3) = (fi2 c now, -1) := by
  unfold Cho.mark
  rw [if_neg (by simp; omega), if_pos ⟨rfl, by omega, by simp⟩]
  rfl
theorem fi2_eq {c : Cho} {now W longest : Int} (h : FI c now W longest) : fi2 c now = { c with join := upd c.join 1 now, till := upd c.till 1 (now + 3 + W), wait := upd c.wait 1 (min (2 * W) longest), level := 0, steps := c.steps ++ [(c.level, 1, 1), (1, 0, 1)] } := by
  unfold fi2 Cho.drop
  have e1 : (fi1 c now).level.toNat = 1 := rfl
  have e2 : (fi1 c now).join 1 = now := rfl
  have e3 : (fi1 c now).fresh = 5 := h.fresh
  have e4 : (fi1 c now).wait 1 = W := h.wait
  have e5 : (fi1 c now).longest = longest := h.longest
  have e6 : (fi1 c now).level = 1 := rfl
  simp only [e1, e2, e3]
  rw [if_pos (by omega)]
  simp [Cho.to, e4, e5, e6, fi1, h.longest, h.wait, h.fresh]
theorem fi_m3 {c : Cho} {now W longest : Int} (h : FI c now W longest) (h0 : 0 ≤ now) (h1 : now ≤ 1000000000) (hW : 1 ≤ W ∧ W ≤ 1048576) : (fi2 c now).mark 1 [1, 2] 2 (now + 2 + W) = (fi2 c now, 0) := by
  have e := fi2_eq h
  have e1 : (fi2 c now).level = 0 := by rw [e]
  have e2 : (fi2 c now).till 1 = now + 3 + W := by rw [e]; simp [upd]
  unfold Cho.mark
  rw [if_neg (by simp; omega), if_neg (by rw [e1]; omega), if_neg (by rw [show (1 : Int).toNat = 1 from rfl, e2]; omega)]
theorem fi_next {c : Cho} {now W longest : Int} (h : FI c now W longest) (h0 : 0 ≤ now) (h1 : now ≤ 1000000000) : FI (fi2 c now) (now + 3 + W) (min (2 * W) longest) longest := by
  have ok1 : (fi1 c now).Ok := by have := mark_ok h.ok 1 [1, 2] 2 now; rw [fi_m1 h h0 h1] at this; exact this
  have ok2 : (fi2 c now).Ok := drop_ok ok1 (by show (0 : Int) < 1; omega) ⟨by omega, by omega⟩
  have e := fi2_eq h
  exact ⟨by rw [e], by rw [e]; simp [upd], by rw [e]; simp [upd], by rw [e]; exact h.longest, by rw [e]; exact h.fresh, ok2⟩
theorem fi_len {c : Cho} {now W longest : Int} (h : FI c now W longest) : (fi2 c now).steps.length = c.steps.length + 2 := by rw [fi2_eq h]; simp

set_option maxRecDepth 100000 in
set_option maxHeartbeats 2000000 in
theorem marksFails_any (first longest n : Int) (w : World) :
    Calls Try.prog 3 #[.int .i64 first, .int .i64 longest, .int .i64 n] w fun e w' => e = .returned (.bool true) ∧ Below w.heap.size w w' := by
  have ha := awake23 w
  by_cases g : first < 1 ∨ 65536 < first ∨ longest < first ∨ 1048576 < longest ∨ n < 0 ∨ 60 < n
  · rcases (by omega : first < 1 ∨ (1 ≤ first ∧ 65536 < first) ∨ (1 ≤ first ∧ first ≤ 65536 ∧ longest < first) ∨ (1 ≤ first ∧ first ≤ 65536 ∧ first ≤ longest ∧ 1048576 < longest) ∨ (1 ≤ first ∧ first ≤ 65536 ∧ first ≤ longest ∧ longest ≤ 1048576 ∧ n < 0) ∨ (1 ≤ first ∧ first ≤ 65536 ∧ first ≤ longest ∧ longest ≤ 1048576 ∧ 0 ≤ n ∧ 60 < n)) with
      g1 | ⟨g1, g2⟩ | ⟨g1, g2, g3⟩ | ⟨g1, g2, g3, g4⟩ | ⟨g1, g2, g3, g4, g5⟩ | ⟨g1, g2, g3, g4, g5, g6⟩
    all_goals
      clear g
      go_enter Try.func3, Try.ntmps3
      go_wp2_with (go_at_call 8; refine ha.mono ?_; rintro e w1 ⟨rfl, hb⟩)
      go_ret
      exact ⟨rfl, hb⟩
  have g1 : 1 ≤ first := by omega
  have g2 : first ≤ 65536 := by omega
  have g3 : first ≤ longest := by omega
  have g4 : longest ≤ 1048576 := by omega
  have g5 : 0 ≤ n := by omega
  have g6 : n ≤ 60 := by omega
  clear g ha
  obtain ⟨n, rfl⟩ := Int.eq_ofNat_of_zero_le g5
  have hok : NewOk first longest 5 := by unfold NewOk; omega
  have hn := new_yes first longest 5 w hok
  have fi0 : FI ((Cho.fresh0 first longest 5).to 0 (-1)) 0 first longest := ⟨rfl, by simp [Cho.to, Cho.fresh0], rfl, rfl, rfl, to_ok (fresh0_ok hok) ⟨by omega, by omega⟩⟩
  have l0 : ((Cho.fresh0 first longest 5).to 0 (-1)).steps.length = 1 := rfl
  have lev0 : (Cho.fresh0 first longest 5).level = -1 := rfl
  have st0 : (Cho.fresh0 first longest 5).steps.length ≤ 100000 := by simp [Cho.fresh0]
  obtain ⟨c0, hc0⟩ : ∃ c0, c0 = Cho.fresh0 first longest 5 := ⟨_, rfl⟩
  rw [← hc0] at hn fi0 l0 lev0 st0
  have HL := Lib.hid lev0
  have HLN := Lib.hid l0
  clear hok hc0 lev0 l0
  go_enter Try.func3, Try.ntmps3
  go_wp2_with fail
  refine hn.mono ?_
  rintro e w1 ⟨b, rfl, h1, hb1⟩
  replace h1 : ChoAt w1 (fun k => w.heap.size ≤ k) b c0 := h1.mono (fun k hk => hk.1)
  have hen := enter_any b _ _ _ h1 st0
  rw [if_pos HL.out, if_pos HL.out] at hen
  clear hn
  go_wp2_with fail
  refine hen.mono ?_
  rintro e w3 ⟨rfl, h3, k3⟩
  have q3 := bkeep hb1 k3 (Nat.le_refl _) (fun _ h => h)
  replace h3 := h3.from hb1.size
  have hB := Both.new h3 q3.size 1 2
  have q4 := q3.alloc q3.size (.cells #[.int .u64 1, .int .u64 2] 29)
  clear h1 h3 q3 k3 hen hb1
  go_wp2_with fail
  generalize w3.alloc (.cells #[.int .u64 1, .int .u64 2] 29) = w4 at *
  generalize w3.heap.size = rb at *
  go_loopw [10, 11, 56] (fun now wt i wr => ∃ (k : Nat) (t W : Int) (c : Cho), k ≤ n ∧ i = .int .i64 k ∧ now = .int .i64 t ∧ wt = .int .i64 W ∧ 0 ≤ t ∧ t ≤ k * 1048579 ∧ 1 ≤ W ∧ W ≤ 1048576 ∧ Hid (FI c t W longest) ∧ c.steps.length ≤ 1 + 2 * k ∧ Hid (Both wr w.heap.size b rb c (.slice (some ⟨rb, 0, none⟩) 2 2) [1, 2]) ∧ Below w.heap.size w wr) (fun _ _ i _ => n - (intOf i).toNat)
  case atStart => exact ⟨0, 0, first, _, by omega, rfl, rfl, rfl, by omega, by omega, by omega, by omega, fi0, by rw [HLN.out]; omega, hB, q4⟩
  case round =>
    obtain ⟨k, t, W, c, hk, rfl, rfl, rfl, t0, t1, W1, W2, hfi, hlen, hB, hb⟩ := hrel
    by_cases hlt : k < n
    · have t2 : t ≤ 1000000000 := by omega
      have F := hfi.out
      have m1 := mark_both _ b _ c 1 2 t _ _ _ hB.out (by omega) F.ok (by simp)
      rw [fi_m1 F t0 t2] at m1
      have ok1 : (fi1 c t).Ok := by have := mark_ok F.ok 1 [1, 2] 2 t; rw [fi_m1 F t0 t2] at this; exact this
      have len1 : (fi1 c t).steps.length = c.steps.length + 1 := by simp [fi1, Cho.to]
      have e2 := fi_m2 F t0 t2
      have e3 := fi_m3 F t0 t2 ⟨W1, W2⟩
      have FN := fi_next F t0 t2
      have len2 := fi_len F
      have til2 : (fi2 c t).till 1 = t + 3 + W := by rw [fi2_eq F]; simp [upd]
      generalize fi1 c t = c1 at *
      generalize fi2 c t = c2 at *
      have E2 := Lib.hid e2
      have E3 := Lib.hid e3
      have HT := Lib.hid til2
      have L1 := Lib.hid len1
      have L2 := Lib.hid len2
      have HFN := Lib.hid FN
      clear e2 e3 til2 len1 len2 FN F fi0 hB q4
      go_wp2_with fail
      refine m1.mono ?_
      rintro e w5 ⟨rfl, hB1, k1⟩
      have q1 := bkeep hb k1 (Nat.le_refl _) (fun _ h => h.1)
      have m2 := mark_both _ b _ c1 1 1 (t + 3) _ _ _ hB1 (by rw [L1.out]; omega) ok1 (by simp)
      rw [E2.out] at m2
      clear m1 k1 hb hB1
      go_wp2_with fail
      refine m2.mono ?_
      rintro e w6 ⟨rfl, hB2, k2⟩
      have q2 := bkeep q1 k2 (Nat.le_refl _) (fun _ h => h.1)
      have hun := until_any b _ c2 1 _ hB2.cho
      rw [if_pos (by omega), show (1 : Int).toNat = 1 from rfl, HT.out] at hun
      clear m2 k2 q1
      go_wp2_with fail
      refine hun.mono ?_
      rintro e w6 ⟨rfl, rfl⟩
      have m3 := mark_both _ b _ c2 1 2 (t + 2 + W) _ _ _ hB2 (by rw [L2.out]; omega) HFN.out.ok (by simp)
      rw [E3.out] at m3
      clear hun hB2
      go_wp2_with fail
      refine m3.mono ?_
      rintro e w7 ⟨rfl, hB3, k3⟩
      have q3 := bkeep q2 k3 (Nat.le_refl _) (fun _ h => h.1)
      clear m3 k3 q2
      rcases (by omega : 2 * W ≤ longest ∨ longest < 2 * W) with hm | hm
      · go_wp2_with fail
        go_roundw
        case rel => exact ⟨k + 1, t + (3 + W), 2 * W, c2, by omega, by go_num, rfl, rfl, by omega, by omega, by omega, by omega, by have := HFN.out; rw [Int.min_eq_left hm] at this; rw [show t + (3 + W) = t + 3 + W by omega]; exact this, by rw [L2.out]; omega, hB3, q3⟩
        case measure => simp [intOf]; omega
      · go_wp2_with fail
        go_roundw
        case rel => exact ⟨k + 1, t + (3 + W), longest, c2, by omega, by go_num, rfl, rfl, by omega, by omega, by omega, by omega, by have := HFN.out; rw [Int.min_eq_right (by omega)] at this; rw [show t + (3 + W) = t + 3 + W by omega]; exact this, by rw [L2.out]; omega, hB3, q3⟩
        case measure => simp [intOf]; omega
    · obtain rfl : k = n := by omega
      go_wp2_with fail
      refine (awake23 _).mono ?_
      rintro e w5 ⟨rfl, hb5⟩
      go_wp2
      go_ret
      exact ⟨rfl, bmore hb hb5 hb.size⟩
end Go.Proofs.Ytmiholjmagobhaa
