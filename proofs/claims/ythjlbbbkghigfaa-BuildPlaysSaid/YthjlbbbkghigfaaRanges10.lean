/- ranges: Cut. -/
import Derived.Test.YthjlbbbkghigfaaRanges9
import Derived.Test.YthjlbbbkghigfaaRgPlain4
import Derived.Deep.RegionHeld3
import Derived.Lib.MinMax
namespace Go.Proofs.Ythjlbbbkghigfaa
open Go.RowKit
set_option linter.unusedVariables false
set_option linter.unusedSimpArgs false

/-- what Cut makes of the stretches -/
def CutL (l : List (Int × Int)) (a c : Int) (l' : List (Int × Int)) : Prop := Good (-1) l' ∧ ∀ n, cov l' n = (cov l n && !(rightB a c && (decide (a ≤ n) && decide (n < c))))
/-- what Cut leaves -/
def CutR (w w' : World) (e : Ending) (b : Nat) (v : Value) (l : List (Int × Int)) (a c : Int) : Prop := ∃ v' l', CutL l a c l' ∧ e = .returned (.tuple #[.int .i64 (tot l - tot l'), .int .i64 (if rightB a c then 0 else 11)]) ∧ SetAt w' b v' l' (tot l') ∧ (∀ g, v'.ownBlock = some g → v.ownBlock = some g ∨ w.heap.size ≤ g) ∧ Keep (fun k => k = b ∨ v.ownBlock = some k) w w'
theorem CutR.same {w : World} {e : Ending} {b : Nat} {v : Value} {l : List (Int × Int)} {a c : Int} (h : SetAt w b v l (tot l)) (hg : Good (-1) l) (hn : rightB a c = true → c ≤ a) (he : e = .returned (.tuple #[.int .i64 0, .int .i64 (if rightB a c then 0 else 11)])) : CutR w w e b v l a c := by
  refine ⟨v, l, ⟨hg, fun n => ?_⟩, by rw [he, Int.sub_self], h, fun g hg => .inl hg, Keep.refl _ _⟩
  cases hr : rightB a c with
  | false => simp
  | true =>
    have := hn hr
    have e : (decide (a ≤ n) && decide (n < c)) = false := by
      rw [Bool.eq_false_iff]; simp; omega
    rw [e]; simp
/-- lay, as Cut calls it -/
theorem lay_cut (b : Nat) (v : Value) (l left : List (Int × Int)) (p q : Nat) (nA : Option Addr) (nc B : Nat) (w : World) (h : SetAt w b v l (tot l)) (hg : Good (-1) l) (hpq : p ≤ q) (hq : q ≤ l.length) (hfew : p + left.length ≤ q ∨ (q = p + 1 ∧ left.length = 2))
    (hb : ∀ x ∈ left, 0 ≤ x.1 ∧ x.1 ≤ x.2 ∧ x.2 ≤ 16384) (ho : w.ownsRow B 46 2 (.slice nA left.length nc) left.length (left.flatMap pairCells)) (hbB : b < B) (hvB : ∀ g, v.ownBlock = some g → g < B) (hz : p = q → nA = none ∧ nc = 0) (h2 : left.length ≤ 2) :
    Calls Try.prog 45 #[.pointer (some ⟨b, 0, none⟩), .int .i64 p, .int .i64 q, .slice nA left.length nc] w fun e w' => LayR w w' e b v (rep l p q left) (tot l) (tot (rep l p q left)) := by
  have hln := hg.len'
  have hB : ∀ g, (Value.slice nA left.length nc).ownBlock = some g → B ≤ g := fun g hgg => by
    rcases ho.2 with ⟨hv0, hz⟩ | ⟨g', cap, cur, hv0, hgb, -⟩
    · rw [hv0] at hgg; cases hgg
    · rw [hv0] at hgg; cases hgg; exact hgb
  have ho0 : w.ownsRow 0 46 2 (.slice nA left.length nc) left.length (left.flatMap pairCells) := ownsRow_base ho (Nat.zero_le _)
  refine lay_any b v l left p q left.length nA nc w h hg (by omega) hpq hq (Reads.of_owns ho) rfl (by omega) (fun g hgg _ e => by have := hB g hgg; omega) hb (fun w2 h2 hk2 => ?_)
  refine replace_cut p q left.length v l left nA nc w2 h2.row (by omega) hpq hq hfew (ownsRow_keep ho0 hk2 (fun g hgg e => by have := hB g hgg; omega)) (fun g hgg e => by have := hB g hgg; have := hvB g e; omega) hz
end Go.Proofs.Ythjlbbbkghigfaa
