/- A region that draws its order and ends in a store that waits for its operations through others (a chain of waits): XHeldTail's take for such operations. -/
import Derived.Test.YtlodiibmofeikaaHeldTail
namespace Go.Proofs.Ytlodiibmofeikaa
open Go.RowKit
set_option linter.unusedVariables false
set_option linter.unusedSimpArgs false

section
variable {P : Program} {ops : Array Oper} {md : Region.Mode} {Q : Exit → Act → World → Prop} {S : World → Prop} {t : Nat}
/-- t waits for the chain's first, each for the next, the last for i; none of them is done -/
def chainB (md : Region.Mode) (ops : Array Oper) (ls : Array Bool) : Nat → List Nat → Nat → Bool
  | t, [], i => Region.waitsFor md ops t i
  | t, m :: c, i => Region.waitsFor md ops t m && (ls.getD m true == false) && chainB md ops ls m c i
theorem not_ready {m n : Nat} {ls : Array Bool} (hw : Region.waitsFor md ops m n = true) (hn : ls.getD n true = false) : m ∉ Region.ready md ops ls := fun h => by
  obtain ⟨ot, hot, d, hd, hdb, hdi⟩ := Region.waitsFor_spec hw
  obtain ⟨-, oj, hoj, hall⟩ := mem_ready.1 h
  rw [hot] at hoj
  cases hoj
  have h1 := hall d hd hdb
  rw [hdi, getD_both hn] at h1
  cases h1
theorem chain_not {ls : Array Bool} : ∀ {t : Nat} {c : List Nat} {i : Nat}, chainB md ops ls t c i = true → ls.getD i true = false → t ∉ Region.ready md ops ls
  | t, [], i, h, hi => not_ready h hi
  | t, m :: c, i, h, hi => by
    simp only [chainB, Bool.and_eq_true, beq_iff_eq] at h
    exact not_ready h.1.1 h.1.2
theorem chain_set {ls : Array Bool} {j : Nat} : ∀ {t : Nat} {c : List Nat} {i : Nat}, chainB md ops ls t c i = true → ls.getD i true = false → j ∈ Region.ready md ops ls → chainB md ops (ls.setIfInBounds j true) t c i = true
  | t, [], i, h, hi, hj => h
  | t, m :: c, i, h, hi, hj => by
    simp only [chainB, Bool.and_eq_true, beq_iff_eq] at h ⊢
    refine ⟨⟨h.1.1, ?_⟩, chain_set h.2 hi hj⟩
    have hne : j ≠ m := fun e => by subst e; exact chain_not h.2 hi hj
    rw [getD_set_ne true hne]
    exact h.1.2
theorem heldT_firstC {i : Nat} {oi : Oper} {v : Value} {c : List Nat} (hi : ops[i]? = some oi) (hsel : ∀ (j : Nat) (o : Oper) cs b, ops[j]? = some o → o.op ≠ .select cs b) (hQ : ∀ c a w, Q (.panic c) (a.put oi.dst v) w → Q (.panic c) a w)
    (hit : i ≠ t) (f : Nat) :
    ∀ ls a w, chainB md ops ls t c i = true → (∀ j oj, ops[j]? = some oj → j ≠ i → ls.getD j true = false → (∀ e ∈ oj.after, Region.binds md e = true → e.on ≠ i) → oi.apart ops oj = true) →
      i ∈ Region.ready md ops ls → YieldsIf P ops S oi v a → S w → HeldT P md ops Q S t f (ls.setIfInBounds i true) (a.put oi.dst v) w → HeldT P md ops Q S t (f + 1) ls a w := by
  have hnt : ∀ ls, chainB md ops ls t c i = true → i ∈ Region.ready md ops ls → ∀ j ∈ Region.ready md ops ls, j ≠ t := fun ls hc hr j hj e => by
    subst e
    exact chain_not hc (mem_ready.1 hr).1 hj
  induction f with
  | zero =>
    intro ls a w hc _ hr hy hS h
    refine ⟨fun e => by simp [e] at hr, fun j hj => ?_⟩
    rw [if_neg (hnt ls hc hr j hj)]
    by_cases e : j = i
    · subst e; exact hy.wpOp hi hS ⟨hS, h⟩
    · have h1 := ready_mono hj e
      rw [h.1] at h1
      cases h1
  | succ f ih =>
    intro ls a w hc hap hr hy hS h
    refine ⟨fun e => by simp [e] at hr, fun j hj => ?_⟩
    rw [if_neg (hnt ls hc hr j hj)]
    by_cases e : j = i
    · subst e; exact hy.wpOp hi hS ⟨hS, h⟩
    · obtain ⟨hj0, oj, hoj, hall⟩ := mem_ready.1 hj
      have hwj : ∀ d ∈ oj.after, Region.binds md d = true → d.on ≠ i := fun d hd hb h' => by
        have h1 := hall d hd hb
        rw [h', getD_both (mem_ready.1 hr).1] at h1
        cases h1
      have h1 := h.2 j (ready_mono hj e)
      rw [if_neg (hnt ls hc hr j hj)] at h1
      refine wpOp_mono (fun a' w' hh => ⟨hh.2.1, ih (ls.setIfInBounds j true) a' w' (chain_set hc (mem_ready.1 hr).1 hj) (fun q oq hq hqi hq0 hqw => ?_) (ready_mono hr (fun h' => e h'.symm)) hh.1 hh.2.1 ?_⟩)
        (wpOp_putIf hoj (hap j oj hoj e hj0 hwj) (fun cs b => hsel i oi cs b hi) (fun cs b => hsel j oj cs b hoj) hQ hy h1)
      · by_cases ejq : j = q
        · subst ejq; exact hap j oq hq hqi hj0 hqw
        · rw [getD_set_ne true ejq] at hq0
          exact hap q oq hq hqi hq0 hqw
      · rw [Array.setIfInBounds_comm _ _ e]
        exact hh.2.2
theorem heldT_takeC {i : Nat} {oi : Oper} {v : Value} {f : Nat} {ls : Array Bool} {a : Act} {w : World} (c : List Nat) (hi : ops[i]? = some oi) (hs : Region.noSelect ops = true) (hf : Region.free md ops ls i = true) (hr : (Region.ready md ops ls).contains i = true) (hw : (chainB md ops ls t c i && i != t) = true)
    (hQ : ∀ c a w, Q (.panic c) (a.put oi.dst v) w → Q (.panic c) a w) (hy : YieldsIf P ops S oi v a) (hS : S w) (h : HeldT P md ops Q S t f (ls.setIfInBounds i true) (a.put oi.dst v) w) : HeldT P md ops Q S t (f + 1) ls a w := by
  simp only [Bool.and_eq_true, bne_iff_ne] at hw
  exact heldT_firstC hi (Region.noSelect_spec hs) hQ hw.2 f ls a w hw.1 (Region.free_spec hi hf) (by simpa using hr) hy hS h
/-- an operation that no world touches is taken first, wherever number t stands -/
theorem heldT_freeA {i : Nat} {oi : Oper} {v : Value} (hi : ops[i]? = some oi) (hsel : ∀ (j : Nat) (o : Oper) cs b, ops[j]? = some o → o.op ≠ .select cs b) (hQ : ∀ c a w, Q (.panic c) (a.put oi.dst v) w → Q (.panic c) a w)
    (hit : i ≠ t) (f : Nat) :
    ∀ ls a w, (∀ j oj, ops[j]? = some oj → j ≠ i → ls.getD j true = false → (∀ e ∈ oj.after, Region.binds md e = true → e.on ≠ i) → oi.apart ops oj = true) →
      i ∈ Region.ready md ops ls → Yields P ops oi v a → S w → HeldT P md ops Q S t f (ls.setIfInBounds i true) (a.put oi.dst v) w → HeldT P md ops Q S t (f + 1) ls a w := by
  induction f with
  | zero =>
    intro ls a w _ hr hy hS h
    refine ⟨fun e => by simp [e] at hr, fun j hj => ?_⟩
    by_cases e : j = i
    · subst e; rw [if_neg hit]; exact hy.yieldsIf.wpOp hi hS ⟨hS, h⟩
    · have h1 := ready_mono hj e
      rw [h.1] at h1
      cases h1
  | succ f ih =>
    intro ls a w hap hr hy hS h
    refine ⟨fun e => by simp [e] at hr, fun j hj => ?_⟩
    by_cases e : j = i
    · subst e; rw [if_neg hit]; exact hy.yieldsIf.wpOp hi hS ⟨hS, h⟩
    · by_cases et : j = t
      · rw [if_pos et]
        exact (wpAny_first hi hsel hQ (f + 1) ls a w hap hr hy (heldT_any (f + 1) _ _ _ h)).2 j hj
      · obtain ⟨hj0, oj, hoj, hall⟩ := mem_ready.1 hj
        have hwj : ∀ d ∈ oj.after, Region.binds md d = true → d.on ≠ i := fun d hd hb h' => by
          have h1 := hall d hd hb
          rw [h', getD_both (mem_ready.1 hr).1] at h1
          cases h1
        have h1 := h.2 j (ready_mono hj e)
        rw [if_neg et] at h1 ⊢
        refine wpOp_mono (fun a' w' hh => ⟨hh.2.1, ih (ls.setIfInBounds j true) a' w' (fun q oq hq hqi hq0 hqw => ?_) (ready_mono hr (fun h' => e h'.symm)) hh.1 hh.2.1 ?_⟩)
          (wpOp_put hoj (hap j oj hoj e hj0 hwj) (fun cs b => hsel i oi cs b hi) (fun cs b => hsel j oj cs b hoj) hQ hy h1)
        · by_cases ejq : j = q
          · subst ejq; exact hap j oq hq hqi hj0 hqw
          · rw [getD_set_ne true ejq] at hq0
            exact hap q oq hq hqi hq0 hqw
        · rw [Array.setIfInBounds_comm _ _ e]
          exact hh.2.2
theorem heldT_free {i : Nat} {oi : Oper} {v : Value} {f : Nat} {ls : Array Bool} {a : Act} {w : World} (hi : ops[i]? = some oi) (hs : Region.noSelect ops = true) (hf : Region.free md ops ls i = true) (hr : (Region.ready md ops ls).contains i = true) (hit : (i != t) = true)
    (hQ : ∀ c a w, Q (.panic c) (a.put oi.dst v) w → Q (.panic c) a w) (hy : Yields P ops oi v a) (hS : S w) (h : HeldT P md ops Q S t f (ls.setIfInBounds i true) (a.put oi.dst v) w) : HeldT P md ops Q S t (f + 1) ls a w :=
  heldT_freeA hi (Region.noSelect_spec hs) hQ (by simpa using hit) f ls a w (Region.free_spec hi hf) (by simpa using hr) hy hS h
end
end Go.Proofs.Ytlodiibmofeikaa
