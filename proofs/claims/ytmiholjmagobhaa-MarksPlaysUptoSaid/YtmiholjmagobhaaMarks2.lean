/- marks: entering, leaving, a marker. -/
import Derived.Test.YtmiholjmagobhaaMarks
namespace Go.Proofs.Ytmiholjmagobhaa
open Go.RowKit
set_option linter.unusedVariables false
set_option linter.unusedSimpArgs false

theorem cho_set_till (c : Cho) (v : Value) {n : Nat} (h : n < 8) (x : Int) : (choCells c v).setIfInBounds (1 + n * 3 + 1) (.int .i64 x) = choCells { c with till := upd c.till n x } v := by
  rcases n with _|_|_|_|_|_|_|_|n <;> first | rfl | omega
theorem cho_set_wait (c : Cho) (v : Value) {n : Nat} (h : n < 8) (x : Int) : (choCells c v).setIfInBounds (1 + n * 3) (.int .i64 x) = choCells { c with wait := upd c.wait n x } v := by
  rcases n with _|_|_|_|_|_|_|_|n <;> first | rfl | omega
theorem cho_set_join (c : Cho) (v : Value) {n : Nat} (h : n < 8) (x : Int) : (choCells c v).setIfInBounds (1 + n * 3 + 2) (.int .i64 x) = choCells { c with join := upd c.join n x } v := by
  rcases n with _|_|_|_|_|_|_|_|n <;> first | rfl | omega
/-- a block's cells are others, its steps the same -/
theorem ChoAt.cells {F : Nat → Prop} {w : World} {b : Nat} {c c' : Cho} {o : Nat} {u : Value} (h : ChoAt w F b c) (he : ∀ v, (choCells c v).setIfInBounds o u = choCells c' v) (hs : c'.steps = c.steps) : ChoAt (w.setCell ⟨b, o, none⟩ u) F b c' := by
  obtain ⟨v, h1, h2, h3, h4⟩ := h
  exact ⟨v, h1.set' (he v), by rw [hs]; exact ownsRow_keep h2 ((Keep.refl (fun k => k = b) w).setCell (p := ⟨b, o, none⟩) (Or.inl rfl) u) (fun g hg e => (h4 g hg).2 e), h3, h4⟩
theorem ChoAt.mono {F F' : Nat → Prop} {w : World} {b : Nat} {c : Cho} (h : ChoAt w F b c) (hf : ∀ k, F k → F' k) : ChoAt w F' b c := by
  obtain ⟨v, h1, h2, h3, h4⟩ := h
  exact ⟨v, h1, h2, hf _ h3, fun g hg => ⟨hf _ (h4 g hg).1, (h4 g hg).2⟩⟩
theorem ChoAt.drew {F : Nat → Prop} {w : World} {b : Nat} {c : Cho} (h : ChoAt w F b c) : ChoAt w.drew F b c := h
theorem ChoAt.drewN {F : Nat → Prop} {w : World} {b : Nat} {c : Cho} (h : ChoAt w F b c) (m : Nat) : ChoAt (w.drewN m) F b c := h

theorem enter_any (b : Nat) (F : Nat → Prop) (c : Cho) (w : World) (h : ChoAt w F b c) (hl : c.steps.length ≤ 100000) :
    Calls Try.prog 10 #[.pointer (some ⟨b, 0, none⟩)] w fun e w' => e = .returned (.int .i64 (if c.level = -1 then 0 else 24)) ∧ ChoAt w' (fun k => F k ∨ w.heap.size ≤ k) b (if c.level = -1 then c.to 0 (-1) else c) ∧ Keep F w w' := by
  have hto := to_any b F c 0 (-1) w h hl
  have H := Lib.hid h
  obtain ⟨v, h1, -⟩ := h
  have hc := h1.cell 0 (v := .int .i64 c.level) (by rfl)
  clear h1
  by_cases g : c.level = -1
  · simp only [if_pos g]
    rw [g] at hc
    clear g
    go_enter Try.func10, Try.ntmps10
    go_wp2_with (go_at_call 25; refine hto.mono ?_; rintro e w1 ⟨rfl, hd, hk⟩)
    go_ret
    exact ⟨rfl, hd, hk⟩
  · simp only [if_neg g]
    have hb : (c.level == -1) = false := by rw [beq_eq_false_iff_ne]; exact g
    clear hto g
    go_enter Try.func10, Try.ntmps10
    go_wp2
    go_ret
    obtain ⟨v, h1, h2, h3, h4⟩ := H.out
    exact ⟨rfl, ⟨v, h1, h2, .inl h3, fun g hg => ⟨.inl (h4 g hg).1, (h4 g hg).2⟩⟩, Keep.refl _ _⟩

theorem leave_any (b : Nat) (F : Nat → Prop) (c : Cho) (w : World) (h : ChoAt w F b c) (hl : c.steps.length ≤ 100000) :
    Calls Try.prog 20 #[.pointer (some ⟨b, 0, none⟩)] w fun e w' => e = .returned (.int .i64 (if c.level = -1 then 24 else 0)) ∧ ChoAt w' (fun k => F k ∨ w.heap.size ≤ k) b (if c.level = -1 then c else c.to (-1) (-1)) ∧ Keep F w w' := by
  have hto := to_any b F c (-1) (-1) w h hl
  have H := Lib.hid h
  obtain ⟨v, h1, -⟩ := h
  have hc := h1.cell 0 (v := .int .i64 c.level) (by rfl)
  clear h1
  by_cases g : c.level = -1
  · simp only [if_pos g]
    rw [g] at hc
    clear hto g
    go_enter Try.func20, Try.ntmps20
    go_wp2
    go_ret
    obtain ⟨v, h1, h2, h3, h4⟩ := H.out
    exact ⟨rfl, ⟨v, h1, h2, .inl h3, fun g hg => ⟨.inl (h4 g hg).1, (h4 g hg).2⟩⟩, Keep.refl _ _⟩
  · simp only [if_neg g]
    have hb : (c.level == -1) = false := by rw [beq_eq_false_iff_ne]; exact g
    clear g
    go_enter Try.func20, Try.ntmps20
    go_wp2_with (go_at_call 25; refine hto.mono ?_; rintro e w1 ⟨rfl, hd, hk⟩)
    go_ret
    exact ⟨rfl, hd, hk⟩

structure Cho.Ok (c : Cho) : Prop where
  lo : -1 ≤ c.level
  hi : c.level ≤ 7
  wait : ∀ n, n < 8 → 1 ≤ c.wait n ∧ c.wait n ≤ 1048576
  till : ∀ n, n < 8 → 0 ≤ c.till n ∧ c.till n ≤ 1099511627776 + 1048576
  join : ∀ n, n < 8 → 0 ≤ c.join n ∧ c.join n ≤ 1099511627776
  longest : 1 ≤ c.longest ∧ c.longest ≤ 1048576
  fresh : 0 ≤ c.fresh ∧ c.fresh ≤ 1048576

def Cho.drop (c : Cho) (now : Int) : Cho :=
  let n := c.level.toNat
  if now - c.join n ≤ c.fresh then
    { c with till := upd c.till n (now + c.wait n), wait := upd c.wait n (min (2 * c.wait n) c.longest) }.to (c.level - 1) c.level
  else c.to (c.level - 1) c.level

set_option maxRecDepth 100000 in
set_option maxHeartbeats 1000000 in
theorem drop_any (b : Nat) (F : Nat → Prop) (c : Cho) (now : Int) (w : World) (h : ChoAt w F b c) (hl : c.steps.length ≤ 100000) (hok : c.Ok) (h0 : 0 < c.level) (hn : 0 ≤ now ∧ now ≤ 1099511627776) :
    Calls Try.prog 26 #[.pointer (some ⟨b, 0, none⟩), .int .i64 now] w fun e w' => e = .returned (.tuple #[]) ∧ ChoAt w' (fun k => F k ∨ w.heap.size ≤ k) b (c.drop now) ∧ Keep F w w' := by
  obtain ⟨n, hn8⟩ := Int.eq_ofNat_of_zero_le (show 0 ≤ c.level by omega)
  have hlt : n < 8 := by have := hok.hi; omega
  have H := Lib.hid h
  obtain ⟨v, h1, -, hF, -⟩ := h
  have hc0 := h1.cell 0 (v := .int .i64 c.level) (by rfl)
  have hc26 := h1.cell 26 (v := .int .i64 c.fresh) (by rfl)
  have hc25 := h1.cell 25 (v := .int .i64 c.longest) (by rfl)
  have hcw := h1.cell _ (cho_wait c v hlt)
  have hct := h1.cell _ (cho_till c v hlt)
  have hcj := h1.cell _ (cho_join c v hlt)
  have f0 := h1.frozen (1 + n * 3)
  have f1 := h1.frozen (1 + n * 3 + 1)
  have bw := hok.wait n hlt
  have bj := hok.join n hlt
  have bl := hok.longest
  have bf := hok.fresh
  rw [hn8] at hc0
  have i0 : (0 : Int) ≤ (n : Int) := by omega
  have i8 : (n : Int) < 8 := by omega
  clear h1 hok h0
  by_cases g : now - c.join n ≤ c.fresh
  · have hdr : c.drop now = { c with till := upd c.till n (now + c.wait n), wait := upd c.wait n (min (2 * c.wait n) c.longest) }.to ((n : Int) - 1) n := by
      unfold Cho.drop
      simp only [hn8, Int.toNat_natCast]
      rw [if_pos g]
    have HN := Lib.hid hn8
    clear hn8
    rcases (by omega : 2 * c.wait n ≤ c.longest ∨ c.longest < 2 * c.wait n) with hm | hm
    · rw [Int.min_eq_left hm] at hdr
      have HD := Lib.hid hdr
      clear hdr
      go_enter Try.func26, Try.ntmps26
      go_wp2_with fail
      go_quiet (fail)
      obtain ⟨m1, rfl⟩ : ∃ m1, m1 = nq := ⟨_, rfl⟩
      go_wp2_with fail
      go_quiet (fail)
      obtain ⟨m2, rfl⟩ : ∃ m2, m2 = nq := ⟨_, rfl⟩
      go_wp2_with fail
      have H1 := ((Hid.out H).drewN (m1 + m2)).cells (c' := { c with till := upd c.till n (now + c.wait n) }) (fun v => cho_set_till c v hlt _) rfl
      have K1 : Keep F w ((w.drewN (m1 + m2)).setCell ⟨b, 1 + n * 3 + 1, none⟩ (.int .i64 (now + c.wait n))) := ((Keep.refl F w).drewN _).setCell (Or.inl hF) _
      obtain ⟨w1, hw1⟩ : ∃ w1 : World, w1 = (w.drewN (m1 + m2)).setCell ⟨b, 1 + n * 3 + 1, none⟩ (.int .i64 (now + c.wait n)) := ⟨_, rfl⟩
      rw [← hw1] at H1 K1 ⊢
      obtain ⟨v1, hb1, -⟩ := id H1
      have hcw1 := hb1.cell _ (cho_wait _ v1 hlt)
      have hc25' := hb1.cell 25 (v := .int .i64 c.longest) (by rfl)
      have fw1 := hb1.frozen (1 + n * 3)
      have HW1 := Lib.hid hw1
      clear hw1 hb1 hc0 hc26 hc25 hcw hct hcj f0 f1
      go_region
      have H2 := (H1.cells (c' := { c with till := upd c.till n (now + c.wait n), wait := upd c.wait n (2 * c.wait n) }) (o := 1 + n * 3) (u := .int .i64 (2 * c.wait n)) (fun v => cho_set_wait _ v hlt _) rfl).drew
      have K2 := (K1.setCell (p := ⟨b, 1 + n * 3, none⟩) (Or.inl hF) (.int .i64 (2 * c.wait n))).drew
      go_wp2_with fail
      obtain ⟨w2, hw2⟩ : ∃ w2 : World, w2 = (w1.setCell ⟨b, 1 + n * 3, none⟩ (.int .i64 (2 * c.wait n))).drew := ⟨_, rfl⟩
      rw [← hw2] at H2 K2 ⊢
      have HW2 := Lib.hid hw2
      clear hw2 hcw1 hc25' fw1
      obtain ⟨v2, hb2, -⟩ := id H2
      have hc2 := hb2.cell 0 (v := .int .i64 n) (by rw [← HN.out]; rfl)
      have hl2 : c.steps.length ≤ 100000 := hl
      have HT := Lib.hid (to_any b F _ ((n : Int) - 1) n _ H2.drew hl)
      have hs2 := K2.size
      clear hb2
      have HK2 := Lib.hid K2
      have HH2 := Lib.hid H2
      clear H1 K1 H2 K2
      have e3 : IntKind.i64.wrap ((n : Int) - 1) = (n : Int) - 1 := IntWalk.i64_in _ (by omega)
      go_region_with (go_at_call 25; refine HT.out.mono ?_; rintro e w3 ⟨rfl, hd3, hk3⟩)
      all_goals
        go_wp2
        go_end0
        have k3 := (Hid.out HK2).drew.trans hk3 (fun _ _ h => h)
        refine ⟨rfl, ?_, k3⟩
        rw [HD.out]
        exact hd3.mono (fun k hk => hk.imp id (fun h => Nat.le_trans hs2 h))
    · rw [Int.min_eq_right (by omega)] at hdr
      have HD := Lib.hid hdr
      clear hdr
      go_enter Try.func26, Try.ntmps26
      go_wp2_with fail
      go_quiet (fail)
      obtain ⟨m1, rfl⟩ : ∃ m1, m1 = nq := ⟨_, rfl⟩
      go_wp2_with fail
      go_quiet (fail)
      obtain ⟨m2, rfl⟩ : ∃ m2, m2 = nq := ⟨_, rfl⟩
      go_wp2_with fail
      have H1 := ((Hid.out H).drewN (m1 + m2)).cells (c' := { c with till := upd c.till n (now + c.wait n) }) (fun v => cho_set_till c v hlt _) rfl
      have K1 : Keep F w ((w.drewN (m1 + m2)).setCell ⟨b, 1 + n * 3 + 1, none⟩ (.int .i64 (now + c.wait n))) := ((Keep.refl F w).drewN _).setCell (Or.inl hF) _
      obtain ⟨w1, hw1⟩ : ∃ w1 : World, w1 = (w.drewN (m1 + m2)).setCell ⟨b, 1 + n * 3 + 1, none⟩ (.int .i64 (now + c.wait n)) := ⟨_, rfl⟩
      rw [← hw1] at H1 K1 ⊢
      obtain ⟨v1, hb1, -⟩ := id H1
      have hcw1 := hb1.cell _ (cho_wait _ v1 hlt)
      have hc25' := hb1.cell 25 (v := .int .i64 c.longest) (by rfl)
      have fw1 := hb1.frozen (1 + n * 3)
      have HW1 := Lib.hid hw1
      clear hw1 hb1 hc0 hc26 hc25 hcw hct hcj f0 f1
      go_region
      have H2 := (H1.cells (c' := { c with till := upd c.till n (now + c.wait n), wait := upd c.wait n c.longest }) (o := 1 + n * 3) (u := .int .i64 c.longest) (fun v => cho_set_wait _ v hlt _) rfl).drew
      have K2 := (K1.setCell (p := ⟨b, 1 + n * 3, none⟩) (Or.inl hF) (.int .i64 c.longest)).drew
      go_wp2_with fail
      obtain ⟨w2, hw2⟩ : ∃ w2 : World, w2 = (w1.setCell ⟨b, 1 + n * 3, none⟩ (.int .i64 c.longest)).drew := ⟨_, rfl⟩
      rw [← hw2] at H2 K2 ⊢
      have HW2 := Lib.hid hw2
      clear hw2 hcw1 hc25' fw1
      obtain ⟨v2, hb2, -⟩ := id H2
      have hc2 := hb2.cell 0 (v := .int .i64 n) (by rw [← HN.out]; rfl)
      have hl2 : c.steps.length ≤ 100000 := hl
      have HT := Lib.hid (to_any b F _ ((n : Int) - 1) n _ H2.drew hl)
      have hs2 := K2.size
      clear hb2
      have HK2 := Lib.hid K2
      have HH2 := Lib.hid H2
      clear H1 K1 H2 K2
      have e3 : IntKind.i64.wrap ((n : Int) - 1) = (n : Int) - 1 := IntWalk.i64_in _ (by omega)
      go_region_with (go_at_call 25; refine HT.out.mono ?_; rintro e w3 ⟨rfl, hd3, hk3⟩)
      all_goals
        go_wp2
        go_end0
        have k3 := (Hid.out HK2).drew.trans hk3 (fun _ _ h => h)
        refine ⟨rfl, ?_, k3⟩
        rw [HD.out]
        exact hd3.mono (fun k hk => hk.imp id (fun h => Nat.le_trans hs2 h))
  · have hdr : c.drop now = c.to ((n : Int) - 1) n := by
      unfold Cho.drop
      simp only [hn8, Int.toNat_natCast]
      rw [if_neg g]
    have HD := Lib.hid hdr
    have HN := Lib.hid hn8
    clear hdr hn8
    go_enter Try.func26, Try.ntmps26
    go_wp2_with fail
    go_quiet (fail)
    obtain ⟨m1, rfl⟩ : ∃ m1, m1 = nq := ⟨_, rfl⟩
    go_wp2_with fail
    go_quiet (fail)
    obtain ⟨m2, rfl⟩ : ∃ m2, m2 = nq := ⟨_, rfl⟩
    go_wp2_with fail
    have HT := Lib.hid (to_any b F _ ((n : Int) - 1) n _ ((Hid.out H).drewN (m1 + m2)).drew hl)
    clear hc26 hc25 hcw hct hcj f0 f1
    have e3 : IntKind.i64.wrap ((n : Int) - 1) = (n : Int) - 1 := IntWalk.i64_in _ (by omega)
    obtain ⟨w2, hw2⟩ : ∃ w2 : World, w2 = w.drewN (m1 + m2) := ⟨_, rfl⟩
    rw [← hw2] at HT
    rw [show (w.drewN m1).drewN m2 = w2 by rw [hw2]; simp]
    have hc2 : w2.cell? ⟨b, 0, none⟩ = some (.int .i64 n) := by rw [hw2]; exact hc0
    have K2 : Keep F w w2 := by rw [hw2]; exact (Keep.refl F w).drewN _
    have HK2 := Lib.hid K2
    have hs2 := K2.size
    clear hc0 K2 hw2
    go_region_with (go_at_call 25; refine HT.out.mono ?_; rintro e w3 ⟨rfl, hd3, hk3⟩)
    all_goals
      go_wp2
      go_end0
      have k3 := (Hid.out HK2).drew.trans hk3 (fun _ _ h => h)
      refine ⟨rfl, ?_, k3⟩
      rw [HD.out]
      exact hd3.mono (fun k hk => hk.imp id (fun h => Nat.le_trans hs2 h))
end Go.Proofs.Ytmiholjmagobhaa
