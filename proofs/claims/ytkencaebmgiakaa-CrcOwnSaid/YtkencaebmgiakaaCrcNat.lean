/- Bytes as a row hands them over, as natural numbers. -/
import Derived.Test.YtkencaebmgiakaaCrcAwake
import Derived.Test.YtkencaebmgiakaaRead
namespace Go.Proofs.Ytkencaebmgiakaa
open Go.RowKit
set_option linter.unusedVariables false
set_option linter.unusedSimpArgs false

def nats (l : List Int) : List Nat := l.map Int.toNat
theorem rn {w : World} {v : Value} {l : List Int} (h : Reads w 1 v l.length (l.map (Value.int .u8))) (hu : ∀ x ∈ l, (Lit.int .u8 x).wf = true) : Reads w 1 v (nats l).length (u8s (nats l)) ∧ Bts (nats l) := by
  have hr : ∀ x ∈ l, 0 ≤ x ∧ x < 256 := by
    intro x hx
    have := hu x hx
    simp [Lit.wf, IntKind.min, IntKind.max, IntKind.bits, IntKind.signed] at this
    omega
  have e : u8s (nats l) = l.map (Value.int .u8) := by
    unfold u8s nats
    rw [List.map_map]
    apply List.map_congr_left
    intro x hx
    have := hr x hx
    simp
    omega
  refine ⟨?_, ?_⟩
  · rw [e, show (nats l).length = l.length by simp [nats]]; exact h
  · intro c hc
    obtain ⟨x, hx, rfl⟩ := List.mem_map.1 hc
    have := hr x hx
    omega
end Go.Proofs.Ytkencaebmgiakaa
