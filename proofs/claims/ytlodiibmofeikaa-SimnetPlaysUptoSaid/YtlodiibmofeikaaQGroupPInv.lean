/- group: what the group's row tells of the asks. -/
import Derived.Test.YtlodiibmofeikaaQGroupRLevel
namespace Go.Proofs.Ytlodiibmofeikaa
open Go.RowKit
set_option linter.unusedVariables false
set_option linter.unusedSimpArgs false

structure PInv (n : Nat) (j lv : Int) (l : List One) (x : List AskD) (k : Nat) : Prop where
  len : l.length = n
  at_ : ∀ r : Nat, r < n → l[r]? = some (rfold j lv r x)
  ok : AsksOk x
  xlen : x.length ≤ k
theorem PInv.zero (n : Nat) (j lv : Int) : PInv n j lv (List.replicate n one0) [] 0 :=
  ⟨List.length_replicate, fun r hr => by rw [List.getElem?_replicate, if_pos hr]; rfl, fun a ha => by simp at ha, by simp⟩
theorem PInv.stay {n : Nat} {j lv : Int} {l : List One} {x : List AskD} {k : Nat} (h : PInv n j lv l x k) : PInv n j lv l x (k + 1) := ⟨h.len, h.at_, h.ok, Nat.le_succ_of_le h.xlen⟩
theorem PInv.take {n : Nat} {j lv : Int} {l : List One} {x : List AskD} {k : Nat} (h : PInv n j lv l x k) (r : Nat) (level now : Int) (hr : r < n) (h0 : 0 ≤ now ∧ now ≤ 1099511627776) :
    PInv n j lv (l.set r (stp j lv (rfold j lv r x) level now)) (x ++ [⟨r, level, now⟩]) (k + 1) := by
  refine ⟨by rw [List.length_set]; exact h.len, fun r' hr' => ?_, fun a ha => ?_, by rw [List.length_append]; have := h.xlen; simp; omega⟩
  · rw [rfold_snoc]
    unfold rstep
    by_cases e : r' = r
    · subst e
      rw [if_pos rfl, List.getElem?_set_self (by rw [h.len]; exact hr)]
    · rw [if_neg (by simp only; omega), List.getElem?_set_ne (fun e' => e e'.symm)]
      exact h.at_ r' hr'
  · rcases List.mem_append.1 ha with ha | ha
    · exact h.ok a ha
    · simp at ha; subst ha; exact h0

end Go.Proofs.Ytlodiibmofeikaa
