import Derived.Test.YtlodiibmofeikaaMem
import Derived.WalkSpells
import Derived.Lib.SliceRun
namespace Go.Proofs.Ytlodiibmofeikaa
open Go.RowKit
set_option linter.unusedVariables false
set_option linter.unusedSimpArgs false

theorem info_msg : (Try.prog.info? 102).map (fun i => (i.zero, i.size, i.bytes)) = some (some (.agg #[.int .i64 0, .slice none 0 0]), 2, 32) := by kernel_rfl

set_option maxRecDepth 100000 in
set_option maxHeartbeats 1000000 in
/-- slices.Clone: new cells, the same as the old ones; nil of nil. -/
theorem clone_msg (v : Value) (n : Nat) (xs : List Value) (w : World) (h : Reads w 2 v n xs) (hn : n * 32 ≤ 140737488351232) (h1 : ∀ u ∈ xs, u.oneCell' = true) :
    Calls Try.prog 54 #[v] w fun e w' => ∃ A c, e = .returned (.slice A n c) ∧ w'.ownsRow w.heap.size 102 2 (.slice A n c) n xs ∧ Below w.heap.size w w' ∧ (v = .slice none 0 0 ↔ (.slice A n c : Value) = .slice none 0 0) := by
  have hR := h
  obtain ⟨hl, A, c, rfl, h2, h3, h4, h5, h6⟩ := h
  obtain ⟨i0, hi, hz0, hz1, hz2⟩ := info_parts info_msg
  have q22 : ∀ (w : World) (a : Option Addr) (n c n' c' : Nat), (binOp .eql 96 (.slice a n c) (.slice none n' c')).run Try.prog w = .ok (.bool a.isNone) w := fun w a n c n' c' => Lib.run_eql_slice_nil w _ _ a n c n' c' Try.underlying96
  have u22 : ∀ w, Sem.run Try.prog (underlying 96) w = .ok (TypeDesc.slice 102) w := run_underlying Try.underlying96
  cases A with
  | none =>
    obtain ⟨rfl, rfl⟩ := h4 rfl
    have : xs = [] := List.eq_nil_of_length_eq_zero (by simpa using hl)
    subst this
    go_enter Try.func54, Try.ntmps54
    go_wp2
    go_ret
    exact ⟨_, _, rfl, World.ownsRow_nil _ _ _ _, Below.refl _ _, by simp⟩
  | some a =>
    have hc : ∀ j u, xs[j]? = some u → w.cell? (a.add j) = some u := fun j u hu => by
      obtain ⟨b, o, c', he, hc⟩ := hR.at j u hu
      cases he
      have e : (⟨b, o, none⟩ : Addr).add j = ⟨b, o + j, none⟩ := by unfold Addr.add; split <;> simp_all
      rw [e]; exact hc
    have HC := Lib.hid hc
    have HL := Lib.hid hl
    clear hc hl h4 h5 h6 hR
    go_enter Try.func54, Try.ntmps54
    go_wp2_with (at_builtin; refine wpList_append_own _ rfl _ _ 96 rfl w.heap.size 102 i0 (.agg #[.int .i64 0, .slice none 0 0]) 2 32 Try.underlying96 hi hz0 hz1 hz2 rfl (by decide) _ _ _ rfl (World.ownsRow_made w #[] 0 (Nat.le_refl _) (Nat.zero_le _) rfl) a n c xs rfl ?qc1 ?qc2 ?qc3 ?qc4 ?qc5 ?qc6 ?_)
    case qc1 => simpa using HL.out
    case qc2 =>
      intro j u hj
      first | exact HC.out j u hj | exact Lib.cell?_alloc_some _ (HC.out j u hj)
    case qc3 => exact h1
    case qc4 => have := h3; omega
    case qc5 => omega
    try (case qc6 => simp)
    intro v' w1 hown hgrow hnil
    go_wp2
    go_ret
    obtain ⟨A', c', rfl⟩ := ownsRow_slice hown
    refine ⟨A', c', by simp, by simpa using hown, ((Below.refl _ w).alloc (Nat.le_refl _) _).grown hgrow (by simp) (by intro k hk; simp [Value.ownBlock] at hk; omega), ?_⟩
    exact ⟨fun h => by simp at h, fun h => (hnil (by simpa using h)).elim⟩

end Go.Proofs.Ytlodiibmofeikaa
