/- ranges: the law's reference: Set over a list of truths. -/
import Derived.Test.YthjlbbbkghigfaaRgPlain3
import Derived.Test.YthjlbbbkghigfaaApp
import Derived.Lib.SliceRun
namespace Go.Proofs.Ythjlbbbkghigfaa
open Go.RowKit
set_option linter.unusedVariables false
set_option linter.unusedSimpArgs false

theorem info_int : (Try.prog.info? 3).map (fun i => (i.zero, i.size, i.bytes)) = some (some (.int .i64 0), 1, 8) := by kernel_rfl
def b01 (b : Bool) : Int := if b then 1 else 0
/-- a list of truths -/
def bitV (N : Nat) (f : Int → Bool) : List Value := (List.range N).map fun i : Nat => .int .i64 (b01 (f (i : Int)))
theorem bitV_succ (q : Nat) (f : Int → Bool) : bitV (q + 1) f = bitV q f ++ [.int .i64 (b01 (f (q : Int)))] := by unfold bitV; rw [List.range_succ, List.map_append]; rfl
theorem bitV_get {N : Nat} {f : Int → Bool} {j : Nat} (h : j < N) : (bitV N f)[j]? = some (.int .i64 (b01 (f (j : Int)))) := by
  unfold bitV
  rw [List.getElem?_map, List.getElem?_range h]; rfl
def inB (a c n : Int) : Bool := decide (a ≤ n) && decide (n < c)
/-- the truths behind Set -/
def setF (f : Int → Bool) (a c : Int) (vb : Bool) : Int → Bool := fun n => if inB a c n then vb else f n
/-- how many of the first q it changes -/
def chg (f : Int → Bool) (a c : Int) (vb : Bool) (q : Nat) : Nat := cnt q (fun n => inB a c n && (f n != vb))
theorem b01_eq {x y : Bool} : (b01 x == b01 y) = (x == y) := by cases x <;> cases y <;> rfl
theorem chg_le (f : Int → Bool) (a c : Int) (vb : Bool) : ∀ q, chg f a c vb q ≤ q
  | 0 => Nat.le_refl _
  | q + 1 => by
    have h := chg_le f a c vb q
    unfold chg at h ⊢
    rw [cnt_succ]
    split <;> omega
end Go.Proofs.Ythjlbbbkghigfaa
