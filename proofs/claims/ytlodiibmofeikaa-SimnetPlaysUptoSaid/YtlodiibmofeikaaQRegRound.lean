/- A region inside a round of a range over a function: what holds of it in plain walks (in whatever order it draws) holds of it there, where nothing of it is deferred. -/
import Derived.Test.YtlodiibmofeikaaQBB
import Derived.OrdersIn
import Derived.ControlIn
import Derived.RangeFuncCalls
namespace Go.Proofs.Ytlodiibmofeikaa
open Go.RowKit
set_option linter.unusedVariables false
set_option linter.unusedSimpArgs false

/-- only the ordinary end -/
def OnlyN (Q : Exit → Act → World → Prop) : Exit → Act → World → Prop
  | .normal, a, w => Q .normal a w
  | _, _, _ => False
theorem OnlyN.normal {Q : Exit → Act → World → Prop} {a : Act} {w : World} (h : Q .normal a w) : OnlyN Q .normal a w := h
theorem only_out (Q : Exit → Act → World → Prop) : ¬ LetsOut (OnlyN Q) := fun ⟨_, _, h⟩ => h
def noDeferR (ops : Array Oper) : Bool := ops.all fun o => match o.op with | .defer _ => false | _ => true
theorem noDeferR_spec {ops : Array Oper} (h : noDeferR ops = true) (j : Nat) (o : Oper) (ho : ops[j]? = some o) (c : Call) : o.op ≠ .defer c := fun e => by
  unfold noDeferR at h
  rw [Array.all_eq_true_iff_forall_mem] at h
  have := h o (Array.mem_of_getElem? ho)
  rw [e] at this
  cases this
theorem rowsIn_wideR {n l : Nat} {P : Program} {row : String} {args : Array Value} {w : World} {R : Value → World → Prop} (h : Rows P row args w R) : RowsIn (Fence.wide.inRound l) n P row args w R := fun c cs _ => by
  obtain ⟨v, w', hr, hs⟩ := h c cs
  exact ⟨v, w', hr, stepsIn_wide.2 hs⟩
section
variable {P : Program} {ops : Array Oper} {md : Region.Mode} {Q : Exit → Act → World → Prop} {n l : Nat}
theorem wpOp_round {i : Nat} {K K' : Act → World → Prop} {a : Act} {w : World} (hd : ∀ (j : Nat) (o : Oper), ops[j]? = some o → ∀ c, o.op ≠ .defer c) (hK : ∀ a w, K a w → K' a w) (h : wpOp P ops (OnlyN Q) i K a w) : wpOpIn (Fence.wide.inRound l) n P ops Q i K' a w := by
  unfold wpOp at h
  unfold wpOpIn
  cases ho : ops[i]? with
  | none =>
    simp only [ho] at h
    exact hK _ _ h
  | some o =>
    simp only [ho] at h ⊢
    by_cases hw : Region.wanted o (yielded ops a.tmps) = true
    · simp only [hw, if_true] at h ⊢
      rcases h with h | h
      case inr => exact absurd h.2 (only_out Q)
      refine ⟨fun _ _ => trivial, ?_⟩
      rw [Oper.semAt_eq _ _ _ (hd i o ho)]
      unfold Oper.wp at h
      generalize (execOp a.eval o).run P w = r at *
      cases r with
      | ok x w' =>
        cases x <;> simp only [Oper.upon, Oper.uponIn] at h ⊢
        case value => exact hK _ _ h
        case skip => exact hK _ _ h
        case defer => exact hK _ _ h
        case enter f args =>
          refine ⟨fun hh => (by cases hh), (CallsIn.inRound l (callsIn_wide.2 h)).mono fun e w'' he => ?_⟩
          cases e with
          | returned v => exact hK _ _ he
          | panicked c => exact he.elim
          | outgrown => exact absurd he (only_out Q)
        case row row args => exact ⟨fun hh => (by cases hh), RowsIn.mono (rowsIn_wideR h) (fun v w'' he => hK _ _ he)⟩
      | halt x w' =>
        cases x <;> simp only [Oper.upon, Oper.uponIn] at h ⊢
        case panic v => exact h.elim
    · simp only [hw] at h ⊢
      exact ⟨fun _ _ => trivial, hK _ _ h⟩
theorem wpAny_round (hd : ∀ (j : Nat) (o : Oper), ops[j]? = some o → ∀ c, o.op ≠ .defer c) (f : Nat) : ∀ ls a w, wpAny P md ops (OnlyN Q) f ls a w → wpAnyIn (Fence.wide.inRound l) n P md ops Q f ls a w := by
  induction f with
  | zero => intro ls a w h; exact ⟨h.1, h.2⟩
  | succ f ih =>
    intro ls a w h
    exact ⟨h.1, fun i hi => wpOp_round hd (fun a w hh => ih _ a w hh) (h.2 i hi)⟩
/-- a region of a round, walked plainly; S is held until number t -/
theorem wpIn_region_heldR {S : World → Prop} {id : Nat} {a : Act} {w : World} (t : Nat) (hm : P.follows .mixedOrders = true) (hd : noDeferR ops = true) (hS : S w.drew) (h : S w.drew → HeldT P .any ops (OnlyN Q) S t ops.size (Array.replicate ops.size false) a w.drew) :
    (Code.region id ops true).wpIn (Fence.wide.inRound l) n P Q a w :=
  wpIn_region_any hm (wpAny_round (noDeferR_spec hd) _ _ _ _ (heldT_any _ _ _ _ (h hS)))
end
end Go.Proofs.Ytlodiibmofeikaa
