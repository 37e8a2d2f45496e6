/- A region that draws its order, in which what a condition S holds fast is read, and whose last operation (a store) need not leave S standing. -/
import Derived.Test.YtlodiibmofeikaaFam
import Derived.StillTail
import Derived.Deep.RegionHeld3
namespace Go.Proofs.Ytlodiibmofeikaa
open Go.RowKit
set_option linter.unusedVariables false
set_option linter.unusedSimpArgs false

section
variable {P : Program} {ops : Array Oper} {md : Region.Mode} {Q : Exit → Act → World → Prop} {S : World → Prop} {t : Nat}
/-- whatever order is drawn: S stands behind each operation but number t -/
def HeldT (P : Program) (md : Region.Mode) (ops : Array Oper) (Q : Exit → Act → World → Prop) (S : World → Prop) (t : Nat) : Nat → Array Bool → Act → World → Prop
  | 0, ls, a, w => Region.ready md ops ls = [] ∧ Q .normal a w
  | f + 1, ls, a, w => (Region.ready md ops ls = [] → Q .normal a w) ∧ ∀ j ∈ Region.ready md ops ls,
      if j = t then wpOp P ops Q j (fun a' w' => wpAny P md ops Q f (ls.setIfInBounds j true) a' w') a w else wpOp P ops Q j (fun a' w' => S w' ∧ HeldT P md ops Q S t f (ls.setIfInBounds j true) a' w') a w
theorem heldT_any (f : Nat) : ∀ ls a w, HeldT P md ops Q S t f ls a w → wpAny P md ops Q f ls a w := by
  induction f with
  | zero => intro ls a w h; exact h
  | succ f ih =>
    intro ls a w h
    refine ⟨h.1, fun j hj => ?_⟩
    have hq := h.2 j hj
    split at hq
    · exact hq
    · exact wpOp_mono (fun a' w' hh => ih _ a' w' hh.2) hq
theorem heldT_first {i : Nat} {oi : Oper} {v : Value} (hi : ops[i]? = some oi) (hsel : ∀ (j : Nat) (o : Oper) cs b, ops[j]? = some o → o.op ≠ .select cs b) (hQ : ∀ c a w, Q (.panic c) (a.put oi.dst v) w → Q (.panic c) a w)
    (hw : Region.waitsFor md ops t i = true) (hit : i ≠ t) (f : Nat) :
    ∀ ls a w, (∀ j oj, ops[j]? = some oj → j ≠ i → ls.getD j true = false → (∀ e ∈ oj.after, Region.binds md e = true → e.on ≠ i) → oi.apart ops oj = true) →
      i ∈ Region.ready md ops ls → YieldsIf P ops S oi v a → S w → HeldT P md ops Q S t f (ls.setIfInBounds i true) (a.put oi.dst v) w → HeldT P md ops Q S t (f + 1) ls a w := by
  obtain ⟨ot, hot, d, hd, hdb, hdi⟩ := Region.waitsFor_spec hw
  have hnt : ∀ ls, i ∈ Region.ready md ops ls → ∀ j ∈ Region.ready md ops ls, j ≠ t := fun ls hr j hj e => by
    subst e
    obtain ⟨-, oj, hoj, hall⟩ := mem_ready.1 hj
    rw [hot] at hoj
    cases hoj
    have h1 := hall d hd hdb
    rw [hdi, getD_both (mem_ready.1 hr).1] at h1
    cases h1
  induction f with
  | zero =>
    intro ls a w _ hr hy hS h
    refine ⟨fun e => by simp [e] at hr, fun j hj => ?_⟩
    rw [if_neg (hnt ls hr j hj)]
    by_cases e : j = i
    · subst e; exact hy.wpOp hi hS ⟨hS, h⟩
    · have h1 := ready_mono hj e
      rw [h.1] at h1
      cases h1
  | succ f ih =>
    intro ls a w hap hr hy hS h
    refine ⟨fun e => by simp [e] at hr, fun j hj => ?_⟩
    rw [if_neg (hnt ls hr j hj)]
    by_cases e : j = i
    · subst e; exact hy.wpOp hi hS ⟨hS, h⟩
    · obtain ⟨hj0, oj, hoj, hall⟩ := mem_ready.1 hj
      have hwj : ∀ d ∈ oj.after, Region.binds md d = true → d.on ≠ i := fun d hd hb h' => by
        have h1 := hall d hd hb
        rw [h', getD_both (mem_ready.1 hr).1] at h1
        cases h1
      have h1 := h.2 j (ready_mono hj e)
      rw [if_neg (hnt ls hr j hj)] at h1
      refine wpOp_mono (fun a' w' hh => ⟨hh.2.1, ih (ls.setIfInBounds j true) a' w' (fun q oq hq hqi hq0 hqw => ?_) (ready_mono hr (fun h' => e h'.symm)) hh.1 hh.2.1 ?_⟩)
        (wpOp_putIf hoj (hap j oj hoj e hj0 hwj) (fun cs b => hsel i oi cs b hi) (fun cs b => hsel j oj cs b hoj) hQ hy h1)
      · by_cases ejq : j = q
        · subst ejq; exact hap j oq hq hqi hj0 hqw
        · rw [getD_set_ne true ejq] at hq0
          exact hap q oq hq hqi hq0 hqw
      · rw [Array.setIfInBounds_comm _ _ e]
        exact hh.2.2
theorem heldT_take {i : Nat} {oi : Oper} {v : Value} {f : Nat} {ls : Array Bool} {a : Act} {w : World} (hi : ops[i]? = some oi) (hs : Region.noSelect ops = true) (hf : Region.free md ops ls i = true) (hr : (Region.ready md ops ls).contains i = true) (hw : (Region.waitsFor md ops t i && i != t) = true)
    (hQ : ∀ c a w, Q (.panic c) (a.put oi.dst v) w → Q (.panic c) a w) (hy : YieldsIf P ops S oi v a) (hS : S w) (h : HeldT P md ops Q S t f (ls.setIfInBounds i true) (a.put oi.dst v) w) : HeldT P md ops Q S t (f + 1) ls a w := by
  simp only [Bool.and_eq_true, bne_iff_ne] at hw
  exact heldT_first hi (Region.noSelect_spec hs) hQ hw.1 hw.2 f ls a w (Region.free_spec hi hf) (by simpa using hr) hy hS h
theorem heldT_one {j : Nat} {o : Oper} {f : Nat} {ls : Array Bool} {a : Act} {w : World} (hr : Region.ready md ops ls = [j]) (hjt : (j != t) = true) (ho : ops[j]? = some o)
    (h : ∀ K' : Act → World → Prop, Shut (∀ a w, S w → (S w → HeldT P md ops Q S t f (ls.setIfInBounds j true) a w) → K' a w) → if Region.wanted o (yielded ops a.tmps) = true then Oper.wp P o a w K' Q else K' (a.put o.dst undef) w) : HeldT P md ops Q S t (f + 1) ls a w := by
  refine ⟨fun e => (by rw [hr] at e; cases e), fun q hq => ?_⟩
  rw [hr] at hq
  obtain rfl : q = j := by simpa using hq
  rw [if_neg (by simpa using hjt)]
  exact wpOp_step ho (fun K' hK => h K' (fun a w hS hW => hK a w ⟨hS, hW hS⟩))
/-- an operation that no world touches may come up beside number t: it is taken first -/
theorem heldT_both {i : Nat} {oi : Oper} {v : Value} {f : Nat} {ls : Array Bool} {a : Act} {w : World} (hi : ops[i]? = some oi) (hs : Region.noSelect ops = true) (hf : Region.free md ops ls i = true) (hr : Region.ready md ops ls = [i, t]) (hit : (i != t) = true)
    (hQ : ∀ c a w, Q (.panic c) (a.put oi.dst v) w → Q (.panic c) a w) (hy : Yields P ops oi v a) (hS : S w) (h : HeldT P md ops Q S t f (ls.setIfInBounds i true) (a.put oi.dst v) w) : HeldT P md ops Q S t (f + 1) ls a w := by
  have hA := wpAny_take hi hs hf (by rw [hr]; simp) hQ hy (heldT_any f _ _ _ h)
  refine ⟨fun e => (by rw [hr] at e; cases e), fun j hj => ?_⟩
  by_cases e : j = t
  · rw [if_pos e]; exact hA.2 j hj
  · rw [if_neg e]
    rw [hr] at hj
    obtain rfl : j = i := by
      rcases List.mem_cons.1 hj with h' | h'
      · exact h'
      · exact absurd (by simpa using h') e
    exact hy.yieldsIf.wpOp hi hS ⟨hS, h⟩
/-- the last operations, from number t on: S is let go -/
theorem heldT_tail {l : List Oper} {ls : Array Bool} {a : Act} {w : World} {f : Nat} (hr : Region.ready md ops ls = [t]) (hf : f + 1 = l.length) (hl : ops.toList.drop t = l) (hB : Region.seqB md ops l.length t ls = true)
    (h : wpList P ops Q l a w) : HeldT P md ops Q S t (f + 1) ls a w := by
  have hA := wpAny_of_seq (md := md) (Q' := Q) l t ls a w (fun j => by rw [← hl]; simp) hB h
  rw [← hf] at hA
  refine ⟨fun e => (by rw [hr] at e; cases e), fun q hq => ?_⟩
  have hq2 := hA.2 q hq
  rw [hr] at hq
  obtain rfl : q = t := by simpa using hq
  rw [if_pos rfl]
  exact hq2
theorem wp_region_heldT {id : Nat} {a : Act} {w : World} (t : Nat) (hm : P.follows .mixedOrders = true) (hS : S w.drew) (h : S w.drew → HeldT P .any ops (NoPanic Q) S t ops.size (Array.replicate ops.size false) a w.drew) : (Code.region id ops true).wp P Q a w :=
  wp_region_noPanic (wp_region_any hm (heldT_any _ _ _ _ (h hS)))
end
end Go.Proofs.Ytlodiibmofeikaa
