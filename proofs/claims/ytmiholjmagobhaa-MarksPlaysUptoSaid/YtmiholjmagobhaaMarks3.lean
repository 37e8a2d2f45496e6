/- marks: a marker is processed; a new chooser; whose markers are due. -/
import Derived.Test.YtmiholjmagobhaaMarks2
namespace Go.Proofs.Ytmiholjmagobhaa
open Go.RowKit
set_option linter.unusedVariables false
set_option linter.unusedSimpArgs false

def Cho.mark (c : Cho) (n : Int) (rates : List Int) (own now : Int) : Cho × Int :=
  if n < 0 ∨ 8 ≤ n ∨ (rates.length : Int) ≤ n ∨ now < 0 ∨ 1099511627776 < now then (c, 0)
  else if n = c.level ∧ 0 < n ∧ own < rates.getD n.toNat 0 then (c.drop now, -1)
  else if n = c.level + 1 ∧ 0 < n ∧ rates.getD n.toNat 0 ≤ own ∧ c.till n.toNat ≤ now then ({ c with join := upd c.join n.toNat now }.to n n, 1)
  else (c, 0)

set_option maxRecDepth 100000 in
set_option maxHeartbeats 2000000 in
theorem mark_any (b : Nat) (F : Nat → Prop) (c : Cho) (n own now : Int) (rv : Value) (rates : List Int) (w : World) (h : ChoAt w F b c) (hl : c.steps.length ≤ 99999) (hok : c.Ok)
    (hr : Reads w 1 rv rates.length (rates.map (Value.int .u64))) (hrl : rates.length ≤ 1000000000000) :
    Calls Try.prog 11 #[.pointer (some ⟨b, 0, none⟩), .int .i64 n, rv, .int .u64 own, .int .i64 now] w fun e w' =>
      e = .returned (.int .i64 (c.mark n rates own now).2) ∧ ChoAt w' (fun k => F k ∨ w.heap.size ≤ k) b (c.mark n rates own now).1 ∧ Keep F w w' := by
  have H := Lib.hid h
  obtain ⟨A, k0, rfl, -⟩ := hr.val
  by_cases g : n < 0 ∨ 8 ≤ n ∨ (rates.length : Int) ≤ n ∨ now < 0 ∨ 1099511627776 < now
  · have e : c.mark n rates own now = (c, 0) := by unfold Cho.mark; rw [if_pos g]
    rw [e]
    clear e hok h
    rcases (by omega : n < 0 ∨ (0 ≤ n ∧ 8 ≤ n) ∨ (0 ≤ n ∧ n < 8 ∧ (rates.length : Int) ≤ n) ∨ (0 ≤ n ∧ n < 8 ∧ n < (rates.length : Int) ∧ now < 0) ∨ (0 ≤ n ∧ n < 8 ∧ n < (rates.length : Int) ∧ 0 ≤ now ∧ 1099511627776 < now)) with
      g1 | ⟨g1, g2⟩ | ⟨g1, g2, g3⟩ | ⟨g1, g2, g3, g4⟩ | ⟨g1, g2, g3, g4, g5⟩
    all_goals
      clear g hr
      go_enter Try.func11, Try.ntmps11
      go_wp2
      go_ret
      exact ⟨rfl, (Hid.out H).mono (fun _ h => .inl h), Keep.refl _ _⟩
  have g1 : 0 ≤ n := by omega
  have g2 : n < 8 := by omega
  have g3 : n < (rates.length : Int) := by omega
  have g4 : 0 ≤ now := by omega
  have g5 : now ≤ 1099511627776 := by omega
  obtain ⟨n, rfl⟩ := Int.eq_ofNat_of_zero_le g1
  have hu : (rates.map (Value.int .u64))[n]? = some (.int .u64 (rates.getD n 0)) := by simp [show n < rates.length by omega]
  obtain ⟨rb, ro, c', he, hcr⟩ := hr.at n _ hu
  cases he
  obtain ⟨X, hX⟩ : ∃ X, X = rates.getD n 0 := ⟨_, rfl⟩
  rw [← hX] at hcr
  have hm : c.mark n rates own now = if (n : Int) = c.level ∧ 0 < (n : Int) ∧ own < X then (c.drop now, -1)
      else if (n : Int) = c.level + 1 ∧ 0 < (n : Int) ∧ X ≤ own ∧ c.till n ≤ now then ({ c with join := upd c.join n now }.to n n, 1) else (c, 0) := by
    unfold Cho.mark
    rw [if_neg g, Int.toNat_natCast, hX]
  have hdrop := drop_any b F c now w h (by omega) hok
  obtain ⟨v, h1, -, hF, -⟩ := h
  have hc0 := h1.cell 0 (v := .int .i64 c.level) (by rfl)
  have hct := h1.cell _ (cho_till c v (n := n) (by omega))
  obtain ⟨q, hq⟩ := (⟨_, h1.cell _ (cho_join c v (n := n) (by omega))⟩ : ∃ q, w.cell? ⟨b, 1 + n * 3 + 2, none⟩ = some q)
  have fj := h1.frozen (1 + n * 3 + 2)
  have blo := hok.lo
  have bhi := hok.hi
  have HQ := Lib.hid hX
  clear g hr hu h1 hX hok hrl
  by_cases d1 : (n : Int) = c.level
  · by_cases d2 : 0 < n ∧ own < X
    · obtain ⟨d3, d4⟩ := d2
      rw [if_pos ⟨d1, by omega, d4⟩] at hm
      rw [hm]
      have hdr := hdrop (by omega) ⟨g4, g5⟩
      rw [← d1] at hc0
      clear hm hdrop d1
      go_enter Try.func11, Try.ntmps11
      go_wp2_with (go_at_call 26; refine hdr.mono ?_; rintro e w1 ⟨rfl, hd, hk⟩)
      go_ret
      exact ⟨rfl, hd, hk⟩
    · rw [if_neg (by omega), if_neg (by omega)] at hm
      rw [hm]
      rw [← d1] at hc0
      have e1 : ((n : Int) == (n : Int) + 1) = false := by rw [beq_eq_false_iff_ne]; omega
      clear hm hdrop d1
      rcases (by omega : n = 0 ∨ (0 < n ∧ X ≤ own)) with rfl | ⟨d3, d4⟩
      all_goals
        clear d2
        go_enter Try.func11, Try.ntmps11
        go_wp2
        all_goals
          go_ret
          exact ⟨rfl, (Hid.out H).mono (fun _ h => .inl h), Keep.refl _ _⟩
  · have e0 : ((n : Int) == c.level) = false := by rw [beq_eq_false_iff_ne]; exact d1
    rw [if_neg (fun h => d1 h.1)] at hm
    by_cases d2 : (n : Int) = c.level + 1
    · by_cases d3 : 0 < n ∧ X ≤ own ∧ c.till n ≤ now
      · obtain ⟨d4, d5, d6⟩ := d3
        rw [if_pos ⟨d2, by omega, d5, d6⟩] at hm
        rw [hm]
        have e1 : ((n : Int) == c.level + 1) = true := by rw [beq_iff_eq]; exact d2
        have hj := (Hid.out H).cells (c' := { c with join := upd c.join n now }) (o := 1 + n * 3 + 2) (u := .int .i64 now) (fun v => cho_set_join c v (by omega) now) rfl
        have hto := to_any b F _ n n _ hj (by simpa using Nat.le_trans hl (by omega))
        have HK := Lib.hid ((Keep.refl F w).setCell (p := ⟨b, 1 + n * 3 + 2, none⟩) (Or.inl hF) (.int .i64 now))
        have hsz : (w.setCell ⟨b, 1 + n * 3 + 2, none⟩ (.int .i64 now)).heap.size = w.heap.size := by simp [World.setCell]
        rw [hsz] at hto
        clear hm hdrop d1 d2 hj hsz
        go_enter Try.func11, Try.ntmps11
        go_wp2_with (go_at_call 25; refine hto.mono ?_; rintro e w1 ⟨rfl, hd, hk⟩)
        go_ret
        exact ⟨rfl, hd, (Hid.out HK).trans hk (fun _ _ h => h)⟩
      · rw [if_neg (by omega)] at hm
        rw [hm]
        rw [show c.level = (n : Int) - 1 by omega] at hc0
        have e1 : ((n : Int) == (n : Int) - 1) = false := by rw [beq_eq_false_iff_ne]; omega
        clear hm hdrop d1 d2 e0
        rcases (by omega : n = 0 ∨ (0 < n ∧ own < X) ∨ (0 < n ∧ X ≤ own ∧ now < c.till n)) with rfl | ⟨d4, d5⟩ | ⟨d4, d5, d6⟩
        all_goals
          clear d3
          go_enter Try.func11, Try.ntmps11
          go_wp2
          all_goals
            go_ret
            exact ⟨rfl, (Hid.out H).mono (fun _ h => .inl h), Keep.refl _ _⟩
    · rw [if_neg (fun h => d2 h.1)] at hm
      rw [hm]
      have e1 : ((n : Int) == c.level + 1) = false := by rw [beq_eq_false_iff_ne]; exact d2
      clear hm hdrop d1 d2
      go_enter Try.func11, Try.ntmps11
      go_wp2
      go_ret
      exact ⟨rfl, (Hid.out H).mono (fun _ h => .inl h), Keep.refl _ _⟩
end Go.Proofs.Ytmiholjmagobhaa
