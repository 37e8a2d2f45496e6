import Derived.Test.YtlhocjimghcmjaaDraws3
namespace Go.Proofs.Ytlhocjimghcmjaa
open Go.RowKit
set_option linter.unusedVariables false
set_option linter.unusedSimpArgs false

set_option maxRecDepth 100000 in
theorem under_no (b : Nat) (n : Int) (w : World) (h : n < 1 ∨ 2147483648 < n) :
    Calls Try.prog 14 #[.pointer (some ⟨b, 0, none⟩), .int .i64 n] w fun e w' => e = .returned (.int .i64 0) ∧ w' = w := by
  rcases (by omega : n < 1 ∨ (1 ≤ n ∧ 2147483648 < n)) with g | ⟨g, g'⟩
  all_goals
    clear h
    go_enter Try.func14, Try.ntmps14
    go_wp2
    go_ret
    exact ⟨rfl, rfl⟩

set_option maxRecDepth 100000 in
theorem under_any (b : Nat) (F : Nat → Prop) (l : List Int) (t : Nat) (n : Int) (w : World) (h : DrawsAt w F b l t) (ht : t ≤ 65536) (hl : l.length ≤ 1000) (hu : U32 l) (h1 : 1 ≤ n) (h2 : n ≤ 2147483648) :
    Calls Try.prog 14 #[.pointer (some ⟨b, 0, none⟩), .int .i64 n] w fun e w' => e = .returned (.int .i64 (drawAt l t * n / 4294967296)) ∧ DrawsAt w' F b l (t + 1 : Nat) ∧ Keep F w w' := by
  have hc := next_any b F l t w h ht hl
  have hd := drawAt_u32 hu t
  generalize drawAt l t = x at *
  have hm : 0 ≤ x * n ∧ x * n ≤ 4294967295 * 2147483648 := ⟨Int.mul_nonneg hd.1 (by omega), Int.mul_le_mul (by omega) h2 (by omega) (by omega)⟩
  go_enter Try.func14, Try.ntmps14
  go_wp2_with (go_at_call 12; refine hc.mono ?_; rintro e w1 ⟨rfl, hd1, k1⟩)
  go_ret
  exact ⟨rfl, hd1, k1⟩

set_option maxRecDepth 100000 in
theorem share_any (b : Nat) (F : Nat → Prop) (l : List Int) (t : Nat) (w : World) (h : DrawsAt w F b l t) (ht : t ≤ 65536) (hl : l.length ≤ 1000) (hu : U32 l) :
    Calls Try.prog 15 #[.pointer (some ⟨b, 0, none⟩)] w fun e w' => e = .returned (.int .u64 (drawAt l t + 1)) ∧ DrawsAt w' F b l (t + 1 : Nat) ∧ Keep F w w' := by
  have hc := next_any b F l t w h ht hl
  have hd := drawAt_u32 hu t
  generalize drawAt l t = x at *
  go_enter Try.func15, Try.ntmps15
  go_wp2_with (go_at_call 12; refine hc.mono ?_; rintro e w1 ⟨rfl, hd1, k1⟩)
  go_ret
  exact ⟨rfl, hd1, k1⟩

set_option maxRecDepth 100000 in
set_option maxHeartbeats 1000000 in
theorem drawsUnder_any (x n : Int) (w : World) (hx : 0 ≤ x ∧ x < 4294967296) :
    Calls Try.prog 6 #[.int .u32 x, .int .i64 n] w fun e w' => e = .returned (.bool true) ∧ Below w.heap.size w w' := by
  have hr : Reads (w.alloc (.cells #[.int .u32 x, .int .u32 x] 27)) 1 (.slice (some ⟨w.heap.size, 0, none⟩) 2 2) 2 [.int .u32 x, .int .u32 x] := Reads.new w _ _ 2 1 rfl (by omega)
  have hn := new_any _ [x, x] _ hr (by simp)
  have hu : U32 [x, x] := by intro y hy; simp at hy; subst hy; exact hx
  have hs0 : (w.alloc (.cells #[.int .u32 x, .int .u32 x] 27)).heap.size = w.heap.size + 1 := by simp
  have hb0 : Below w.heap.size w (w.alloc (.cells #[.int .u32 x, .int .u32 x] 27)) := (Below.refl _ _).alloc (Nat.le_refl _) _
  generalize hw : w.alloc (.cells #[.int .u32 x, .int .u32 x] 27) = w0 at *
  have HW := Lib.hid hw
  clear hw hr
  by_cases g : n < 1 ∨ 2147483648 < n
  · rcases (by omega : n < 1 ∨ (1 ≤ n ∧ 2147483648 < n)) with g1 | ⟨g1, g2⟩
    all_goals
      have hno := fun b w => under_no b n w g
      have HNO := Lib.hid hno
      clear hno g
      go_enter Try.func6, Try.ntmps6
      go_wp2_with fail
      rw [HW.out]
      refine hn.mono ?_
      rintro e w1 ⟨b, rfl, h1, hb1⟩
      go_wp2_with fail
      refine (HNO.out b w1).mono ?_
      rintro e w2 ⟨rfl, rfl⟩
      go_wp2_with fail
      refine (told_any b _ _ 0 _ h1).mono ?_
      rintro e w3 ⟨rfl, rfl⟩
      have hsh := share_any b _ _ 0 _ h1 (by omega) (by simp) hu
      rw [show drawAt [x, x] 0 = x from rfl] at hsh
      go_wp2_with fail
      refine hsh.mono ?_
      rintro e w4 ⟨rfl, h4, k4⟩
      go_wp2_with fail
      refine (awake10 _).mono ?_
      rintro e w5 ⟨rfl, hb5⟩
      go_wp2
      go_ret
      have q1 := bmore hb0 hb1 (by omega)
      have q4 := bkeep q1 k4 (Nat.le_refl _) (fun k hk => by have := hk.1; omega)
      exact ⟨rfl, bmore q4 hb5 q4.size⟩
  · have g1 : 1 ≤ n := by omega
    have g2 : n ≤ 2147483648 := by omega
    clear g
    have hm : 0 ≤ x * n ∧ x * n ≤ 4294967295 * 2147483648 := ⟨Int.mul_nonneg hx.1 (by omega), Int.mul_le_mul (by omega) g2 (by omega) (by omega)⟩
    obtain ⟨y, hy⟩ : ∃ y, y = x * n / 4294967296 := ⟨_, rfl⟩
    have hm2 : x * n < 4294967296 * n := Int.mul_lt_mul_of_pos_right hx.2 (by omega)
    have y0 : 0 ≤ y := by omega
    have y1 : y < n := by omega
    have y2 : y * 4294967296 ≤ x * n := by omega
    have y3 : x * n < (y + 1) * 4294967296 := by omega
    have hun : ∀ b F w, DrawsAt w F b [x, x] (0 : Nat) → Calls Try.prog 14 #[.pointer (some ⟨b, 0, none⟩), .int .i64 n] w fun e w' => e = .returned (.int .i64 y) ∧ DrawsAt w' F b [x, x] (1 : Nat) ∧ Keep F w w' := fun b F w h => by
      rw [hy]; exact under_any b F [x, x] 0 n w h (by omega) (by simp) hu g1 g2
    have HUN := Lib.hid hun
    clear hun hy hm2
    go_enter Try.func6, Try.ntmps6
    go_wp2_with fail
    rw [HW.out]
    refine hn.mono ?_
    rintro e w1 ⟨b, rfl, h1, hb1⟩
    go_wp2_with fail
    refine (HUN.out b _ w1 h1).mono ?_
    rintro e w2 ⟨rfl, h2, k2⟩
    have hsh := share_any b _ _ 1 _ h2 (by omega) (by simp) hu
    rw [show drawAt [x, x] 1 = x from rfl] at hsh
    go_wp2_with fail
    refine hsh.mono ?_
    rintro e w4 ⟨rfl, h4, k4⟩
    go_wp2_with fail
    go_outline
    refine (told_any b _ _ 2 _ h4).mono ?_
    rintro e w3 ⟨rfl, rfl⟩
    go_wp2_with fail
    refine (awake10 _).mono ?_
    rintro e w5 ⟨rfl, hb5⟩
    go_wp2
    go_ret
    have q1 := bmore hb0 hb1 (by omega)
    have q2 := bkeep q1 k2 (Nat.le_refl _) (fun k hk => by have := hk.1; omega)
    have q4 := bkeep q2 k4 (Nat.le_refl _) (fun k hk => by have := hk.1; omega)
    exact ⟨rfl, bmore q4 hb5 q4.size⟩
end Go.Proofs.Ytlhocjimghcmjaa
