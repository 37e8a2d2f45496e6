import Derived.Test.YtlhocjimghcmjaaDraws
namespace Go.Proofs.Ytlhocjimghcmjaa
open Go.RowKit
set_option linter.unusedVariables false
set_option linter.unusedSimpArgs false

theorem load64 (p : Addr) (x : Int) (w : World) (h0 : w.cell? p = some (.int .i64 x)) (hp : p.spot = none) :
    Calls Try.prog 18 #[.pointer (some p)] w fun e w' => e = .returned (.int .i64 x) ∧ w' = w := by
  obtain ⟨b, o, s⟩ := p
  simp only at hp
  subst hp
  have hcas := run_call_load (P := Try.prog) Try.func21 (by kernel_rfl) (by kernel_rfl) (by kernel_rfl) .i64 (by kernel_rfl) h0
  go_enter Try.func18, Try.ntmps18
  go_wp2
  go_ret
  exact ⟨rfl, rfl⟩

theorem add64 (p : Addr) (x y : Int) (w : World) (h0 : w.cell? p = some (.int .i64 x)) (f0 : w.frozen? p = false) (hp : p.spot = none) (hx : -1000000000000 ≤ x ∧ x ≤ 1000000000000) (hy : -1000000000000 ≤ y ∧ y ≤ 1000000000000) :
    Calls Try.prog 19 #[.pointer (some p), .int .i64 y] w fun e w' => e = .returned (.int .i64 (x + y)) ∧ w' = w.setCell p (.int .i64 (x + y)) := by
  obtain ⟨b, o, s⟩ := p
  simp only at hp
  subst hp
  have hs : (Op.intArith .add .i64 x y).run Try.prog w = .ok (.int .i64 (x + y)) w := by
    have e : IntKind.i64.wrap (x + y) = x + y := IntWalk.i64_in _ (by omega)
    simp [Op.intArith, e]
  have hcas := run_call_add (P := Try.prog) Try.func22 (by kernel_rfl) (by kernel_rfl) (by kernel_rfl) .i64 (by kernel_rfl) h0 f0 hs
  clear hs
  go_enter Try.func19, Try.ntmps19
  go_wp2
  go_ret
  exact ⟨rfl, rfl⟩

theorem store64 (p : Addr) (u : Value) (y : Int) (w : World) (h0 : w.cell? p = some u) (f0 : w.frozen? p = false) (hp : p.spot = none) :
    Calls Try.prog 20 #[.pointer (some p), .int .i64 y] w fun e w' => e = .returned (.tuple #[]) ∧ w' = w.setCell p (.int .i64 y) := by
  obtain ⟨b, o, s⟩ := p
  simp only at hp
  subst hp
  have hcas := run_call_store (P := Try.prog) Try.func23 (by kernel_rfl) (by kernel_rfl) (by kernel_rfl) (by kernel_rfl) (k := .i64) (y := y) h0 f0
  go_enter Try.func20, Try.ntmps20
  go_wp2
  go_end0
  exact ⟨rfl, rfl⟩

def atZ (l : List Int) (i : Int) : Int := if i < 0 ∨ 65536 < i then 0 else drawAt l i.toNat

set_option maxRecDepth 100000 in
theorem at_any (b : Nat) (F : Nat → Prop) (l : List Int) (t i : Int) (w : World) (h : DrawsAt w F b l t) (hl : l.length ≤ 1000) :
    Calls Try.prog 10 #[.pointer (some ⟨b, 0, none⟩), .int .i64 i] w fun e w' => e = .returned (.int .u32 (atZ l i)) ∧ ∃ k, w' = w.drewN k := by
  obtain ⟨R, hR⟩ : ∃ R, R = atZ l i := ⟨_, rfl⟩
  have HV := Lib.hid hR
  rw [← hR]
  clear hR
  by_cases h1 : i < 0
  · have hr : R = 0 := by rw [HV.out, atZ, if_pos (Or.inl h1)]
    subst hr
    go_enter Try.func10, Try.ntmps10
    go_wp2
    go_ret
    exact ⟨rfl, 0, rfl⟩
  · by_cases h2 : 65536 < i
    · have hr : R = 0 := by rw [HV.out, atZ, if_pos (Or.inr h2)]
      subst hr
      go_enter Try.func10, Try.ntmps10
      go_wp2
      go_ret
      exact ⟨rfl, 0, rfl⟩
    · have hr : drawAt l i.toNat = R := by rw [HV.out, atZ, if_neg (by omega)]
      have hc := of_any b F l t i.toNat w h (by omega) hl
      rw [Int.toNat_of_nonneg (by omega), hr] at hc
      clear HV hr
      go_enter Try.func10, Try.ntmps10
      go_wp2_with (go_at_call 17; refine hc.mono ?_; rintro e w1 ⟨rfl, k, rfl⟩)
      go_ret
      exact ⟨rfl, _, rfl⟩

theorem told_any (b : Nat) (F : Nat → Prop) (l : List Int) (t : Int) (w : World) (h : DrawsAt w F b l t) :
    Calls Try.prog 11 #[.pointer (some ⟨b, 0, none⟩)] w fun e w' => e = .returned (.int .i64 t) ∧ w' = w := by
  obtain ⟨v, h1, h2, -, -⟩ := h
  have h0 := h1.cell 1 (v := .int .i64 t) (by rfl)
  go_enter Try.func11, Try.ntmps11
  go_wp2_with (go_at_call 18; refine (load64 _ t _ h0 rfl).mono ?_; rintro e w1 ⟨rfl, rfl⟩)
  go_ret
  exact ⟨rfl, rfl⟩

theorem DrawsAt.set {F : Nat → Prop} {w : World} {b : Nat} {l : List Int} {t : Int} (h : DrawsAt w F b l t) (t' : Int) : DrawsAt (w.setCell ⟨b, 1, none⟩ (.int .i64 t')) F b l t' := by
  obtain ⟨v, h1, h2, h3, h4⟩ := h
  exact ⟨v, h1.set' rfl, ownsRow_keep h2 ((Keep.refl (fun k => k = b) w).setCell (Or.inl rfl) _) (fun g hg e => (h4 g hg).2 e), h3, h4⟩

set_option maxRecDepth 100000 in
theorem next_any (b : Nat) (F : Nat → Prop) (l : List Int) (t : Nat) (w : World) (h : DrawsAt w F b l t) (ht : t ≤ 65536) (hl : l.length ≤ 1000) :
    Calls Try.prog 12 #[.pointer (some ⟨b, 0, none⟩)] w fun e w' => e = .returned (.int .u32 (drawAt l t)) ∧ DrawsAt w' F b l (t + 1 : Nat) ∧ Keep F w w' := by
  have h' := h
  obtain ⟨v, h1, h2, h3, h4⟩ := h
  have h0 := h1.cell 1 (v := .int .i64 t) (by rfl)
  have f0 := h1.frozen 1
  obtain ⟨R, hR⟩ : ∃ R, R = drawAt l t := ⟨_, rfl⟩
  have hs := h'.set (t + 1 : Nat)
  have hc := of_any b F l (t + 1 : Nat) t _ hs ht hl
  rw [← hR] at hc ⊢
  have HS := Lib.hid hs
  clear hR hs h' h1 h2
  go_enter Try.func12, Try.ntmps12
  go_wp2_with (go_at_call 19; refine (add64 _ t 1 _ h0 f0 rfl (by omega) (by omega)).mono ?_; rintro e w1 ⟨rfl, rfl⟩)
  go_wp2_with (go_at_call 17; refine hc.mono ?_; rintro e w1 ⟨rfl, k, rfl⟩)
  go_ret
  exact ⟨rfl, HS.out, ((Keep.refl _ _).setCell (Or.inl h3) _).drewN _⟩
end Go.Proofs.Ytlhocjimghcmjaa
