/- A region that draws its order, in whatever fence (a round's too), whose operations only read: the world stands, so each operation yields one value, whatever the order. -/
import Derived.Test.YtlodiibmofeikaaQBB
import Derived.OrdersIn
import Derived.TacticsIn
namespace Go.Proofs.Ytlodiibmofeikaa
open Go.RowKit
set_option linter.unusedVariables false
set_option linter.unusedSimpArgs false

section
variable {P : Program} {ops : Array Oper} {md : Region.Mode} {Q : Exit → Act → World → Prop} {w : World}
/-- in this world operation o leaves v, and nothing else -/
def Ys (P : Program) (ops : Array Oper) (w : World) (o : Oper) (v : Value) (a : Act) : Prop :=
  (Region.wanted o (yielded ops a.tmps) = true ∧ (execOp a.eval o).run P w = .ok (.value v) w ∧ o.about P w a.eval = none) ∨ (Region.wanted o (yielded ops a.tmps) = false ∧ v = undef ∧ o.about P w a.eval = none)
def Det (P : Program) (md : Region.Mode) (ops : Array Oper) (Q : Exit → Act → World → Prop) (w : World) : Nat → Array Bool → Act → Prop
  | 0, ls, a => Region.ready md ops ls = [] ∧ Q .normal a w
  | f + 1, ls, a => (Region.ready md ops ls = [] → Q .normal a w) ∧ ∀ j ∈ Region.ready md ops ls, ∃ o v, ops[j]? = some o ∧ Ys P ops w o v a ∧ Det P md ops Q w f (ls.setIfInBounds j true) (a.put o.dst v)
theorem Ys.wpOpIn {F : Fence} {n : Nat} {j : Nat} {o : Oper} {v : Value} {a : Act} {K : Act → World → Prop} (hd : ∀ c, o.op ≠ .defer c) (ho : ops[j]? = some o) (hy : Ys P ops w o v a) (h : K (a.put o.dst v) w) : Go.wpOpIn F n P ops Q j K a w := by
  unfold Go.wpOpIn
  simp only [ho]
  have hsem : o.semAt F.round a.eval = execOp a.eval o := by
    cases hr : F.round with
    | none => rfl
    | some l => exact Oper.semAt_some l _ o hd
  rcases hy with ⟨hw, hv, hb⟩ | ⟨hw, rfl, hb⟩
  · simp only [hw, if_true, Oper.wpIn, hsem, hv, Oper.uponIn]
    exact ⟨fun f hf => (by rw [hb] at hf; cases hf), h⟩
  · simp only [hw, Bool.false_eq_true, if_false]
    exact ⟨fun f hf => (by rw [hb] at hf; cases hf), h⟩
theorem det_any {F : Fence} {n : Nat} (hd : ∀ (j : Nat) (o : Oper), ops[j]? = some o → ∀ c, o.op ≠ .defer c) (f : Nat) : ∀ ls a, Det P md ops Q w f ls a → wpAnyIn F n P md ops Q f ls a w := by
  induction f with
  | zero => intro ls a h; exact h
  | succ f ih =>
    intro ls a h
    refine ⟨h.1, fun j hj => ?_⟩
    obtain ⟨o, v, ho, hy, hn⟩ := h.2 j hj
    exact hy.wpOpIn (hd j o ho) ho (ih _ _ hn)
theorem Ys.put {o : Oper} {v u : Value} {a : Act} {dst : Option Tmp} (hs : ∀ cs b, o.op ≠ .select cs b) (hp : ∀ d, dst = some d → d ∉ o.looksAt ops) : Ys P ops w o v (a.put dst u) ↔ Ys P ops w o v a := by
  unfold Ys
  rw [execOp_put o hs a dst u hp, wanted_put o a dst u hp, about_put o w a dst u hp]
theorem det_first {i : Nat} {oi : Oper} {v : Value} (hi : ops[i]? = some oi) (hsel : ∀ (j : Nat) (o : Oper) cs b, ops[j]? = some o → o.op ≠ .select cs b) (f : Nat) :
    ∀ ls a, (∀ j oj, ops[j]? = some oj → j ≠ i → ls.getD j true = false → (∀ e ∈ oj.after, Region.binds md e = true → e.on ≠ i) → oi.apart ops oj = true) →
      i ∈ Region.ready md ops ls → Ys P ops w oi v a → Det P md ops Q w f (ls.setIfInBounds i true) (a.put oi.dst v) → Det P md ops Q w (f + 1) ls a := by
  induction f with
  | zero =>
    intro ls a _ hr hy h
    refine ⟨fun e => by simp [e] at hr, fun j hj => ?_⟩
    by_cases e : j = i
    · subst e; exact ⟨oi, v, hi, hy, h⟩
    · have h1 := ready_mono hj e
      rw [h.1] at h1
      cases h1
  | succ f ih =>
    intro ls a hap hr hy h
    refine ⟨fun e => by simp [e] at hr, fun j hj => ?_⟩
    by_cases e : j = i
    · subst e; exact ⟨oi, v, hi, hy, h⟩
    · obtain ⟨oj, vj, hoj, hyj, hn⟩ := h.2 j (ready_mono hj e)
      obtain ⟨hj0, oj', hoj', hall⟩ := mem_ready.1 hj
      rw [hoj] at hoj'
      cases hoj'
      have hwj : ∀ d ∈ oj.after, Region.binds md d = true → d.on ≠ i := fun d hd hb h' => by
        have h1 := hall d hd hb
        have h2 := (mem_ready.1 hr).1
        rw [h'] at h1
        rcases Nat.lt_or_ge i ls.size with h3 | h3
        · simp [h3] at h1 h2; rw [h2] at h1; cases h1
        · simp [Array.getElem?_eq_none h3] at h1
      obtain ⟨p1, p2, p3⟩ := Oper.apart_spec (hap j oj hoj e hj0 hwj)
      refine ⟨oj, vj, hoj, (Ys.put (fun cs b => hsel j oj cs b hoj) p1).1 hyj, ?_⟩
      refine ih (ls.setIfInBounds j true) (a.put oj.dst vj) (fun q oq hq hqi hq0 hqw => ?_) (ready_mono hr (fun h' => e h'.symm)) ((Ys.put (fun cs b => hsel i oi cs b hi) p3).2 hy) ?_
      · by_cases ejq : j = q
        · subst ejq; exact hap j oq hq hqi hj0 hqw
        · rw [getD_set_ne true ejq] at hq0
          exact hap q oq hq hqi hq0 hqw
      · rw [Array.setIfInBounds_comm _ _ e, ← Act.put_comm a v vj p2]
        exact hn
theorem det_take {i : Nat} {oi : Oper} {v : Value} {f : Nat} {ls : Array Bool} {a : Act} (hi : ops[i]? = some oi) (hs : Region.noSelect ops = true) (hf : Region.free md ops ls i = true) (hr : (Region.ready md ops ls).contains i = true)
    (hy : Ys P ops w oi v a) (h : Det P md ops Q w f (ls.setIfInBounds i true) (a.put oi.dst v)) : Det P md ops Q w (f + 1) ls a :=
  det_first hi (Region.noSelect_spec hs) f ls a (Region.free_spec hi hf) (by simpa using hr) hy h
theorem det_done {f : Nat} {ls : Array Bool} {a : Act} (hr : Region.ready md ops ls = []) (h : Q .normal a w) : Det P md ops Q w f ls a := by
  cases f with
  | zero => exact ⟨hr, h⟩
  | succ f => exact ⟨fun _ => h, fun j hj => by rw [hr] at hj; cases hj⟩
def noDefer (ops : Array Oper) : Bool := ops.all fun o => match o.op with | .defer _ => false | _ => true
theorem noDefer_spec (h : noDefer ops = true) (j : Nat) (o : Oper) (ho : ops[j]? = some o) (c : Call) : o.op ≠ .defer c := fun e => by
  unfold noDefer at h
  rw [Array.all_eq_true_iff_forall_mem] at h
  have := h o (Array.mem_of_getElem? ho)
  rw [e] at this
  cases this
theorem wpIn_region_det {F : Fence} {n : Nat} {id : Nat} {a : Act} (hm : P.follows .mixedOrders = true) (hd : noDefer ops = true) (h : Det P .any ops Q w.drew ops.size (Array.replicate ops.size false) a) : (Code.region id ops true).wpIn F n P Q a w :=
  wpIn_region_any hm (det_any (noDefer_spec hd) _ _ _ h)
end
end Go.Proofs.Ytlodiibmofeikaa
