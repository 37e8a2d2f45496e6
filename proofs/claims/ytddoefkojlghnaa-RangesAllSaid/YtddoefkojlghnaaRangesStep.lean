/- ranges: the law's step. -/
import Derived.Test.YtddoefkojlghnaaRanges11
import Derived.Test.YtddoefkojlghnaaRgRef
namespace Go.Proofs.Ytddoefkojlghnaa
open Go.RowKit
set_option linter.unusedVariables false
set_option linter.unusedSimpArgs false

/-- what Add (true) and Cut (false) leave -/
def OpR (vb : Bool) (w w' : World) (e : Ending) (b : Nat) (v : Value) (l : List (Int × Int)) (a c : Int) : Prop := ∃ v' l', Good (-1) l' ∧ (∀ n, cov l' n = if rightB a c && inB a c n then vb else cov l n) ∧
  e = .returned (.tuple #[.int .i64 (if rightB a c then ((chg (cov l) a c vb 16384 : Nat) : Int) else 0), .int .i64 (if rightB a c then 0 else 11)]) ∧ SetAt w' b v' l' (tot l') ∧ (∀ g, v'.ownBlock = some g → v.ownBlock = some g ∨ w.heap.size ≤ g) ∧ Keep (fun k => k = b ∨ v.ownBlock = some k) w w'
theorem add_op (b : Nat) (v : Value) (l : List (Int × Int)) (a c : Int) (w : World) (h : SetAt w b v l (tot l)) (hg : Good (-1) l) :
    Calls Try.prog 22 #[.pointer (some ⟨b, 0, none⟩), .int .i64 a, .int .i64 c] w fun e w' => OpR true w w' e b v l a c := by
  refine (add_any b v l a c w h hg).mono ?_
  rintro e w' ⟨v', l', ⟨g1, g2⟩, rfl, h1, h2, h3⟩
  have hc : ∀ n, cov l' n = if rightB a c && inB a c n then true else cov l n := fun n => by
    rw [g2]
    show _ = if rightB a c && (decide (a ≤ n) && decide (n < c)) then true else cov l n
    cases rightB a c <;> cases (decide (a ≤ n) && decide (n < c)) <;> simp
  refine ⟨v', l', g1, hc, ?_, h1, h2, h3⟩
  cases hr : rightB a c with
  | false =>
    obtain rfl : l' = l := good_uniq g1 hg (fun n => by rw [hc, hr]; rfl)
    rw [Int.sub_self]; rfl
  | true =>
    have e := cnt_add hg g1 (a := a) (b := c) (fun n => by rw [g2, hr, Bool.true_and])
    rw [e]
    have e2 : cnt 16384 (fun n => decide (a ≤ n) && decide (n < c) && !cov l n) = chg (cov l) a c true 16384 := cnt_congr (fun i _ => by
      show _ = (decide (a ≤ (i : Int)) && decide ((i : Int) < c) && (cov l i != true))
      cases cov l i <;> rfl)
    rw [e2]; rfl
theorem cut_op (b : Nat) (v : Value) (l : List (Int × Int)) (a c : Int) (w : World) (h : SetAt w b v l (tot l)) (hg : Good (-1) l) :
    Calls Try.prog 25 #[.pointer (some ⟨b, 0, none⟩), .int .i64 a, .int .i64 c] w fun e w' => OpR false w w' e b v l a c := by
  refine (cut_any b v l a c w h hg).mono ?_
  rintro e w' ⟨v', l', ⟨g1, g2⟩, rfl, h1, h2, h3⟩
  have hc : ∀ n, cov l' n = if rightB a c && inB a c n then false else cov l n := fun n => by
    rw [g2]
    show _ = if rightB a c && (decide (a ≤ n) && decide (n < c)) then false else cov l n
    cases rightB a c <;> cases (decide (a ≤ n) && decide (n < c)) <;> simp
  refine ⟨v', l', g1, hc, ?_, h1, h2, h3⟩
  cases hr : rightB a c with
  | false =>
    obtain rfl : l' = l := good_uniq g1 hg (fun n => by rw [hc, hr]; rfl)
    rw [Int.sub_self]; rfl
  | true =>
    have e := cnt_cut hg g1 (a := a) (c := c) (fun n => by rw [g2, hr, Bool.true_and])
    rw [e]
    have e2 : cnt 16384 (fun n => decide (a ≤ n) && decide (n < c) && cov l n) = chg (cov l) a c false 16384 := cnt_congr (fun i _ => by
      show _ = (decide (a ≤ (i : Int)) && decide ((i : Int) < c) && (cov l i != false))
      cases cov l i <;> rfl)
    rw [e2]; rfl

theorem OpR.keep {vb : Bool} {w w' : World} {e : Ending} {b : Nat} {v : Value} {l : List (Int × Int)} {a c : Int} (h : OpR vb w w' e b v l a c) : Keep (fun k => k = b ∨ v.ownBlock = some k) w w' := by
  obtain ⟨v', l', g1, g2, e1, h1, h2, h3⟩ := h
  exact h3
/-- what step leaves -/
structure StepR (w w' : World) (e : Ending) (b : Nat) (v : Value) (l : List (Int × Int)) (V : Value) (f : Int → Bool) : Prop where
  ex : ∃ v' l' V' f' ok, e = .returned (.tuple #[V', .bool ok]) ∧ Good (-1) l' ∧ SetAt w' b v' l' (tot l') ∧ Reads w' 1 V' 16384 (bitV 16384 f') ∧ (∀ g, V'.ownBlock = some g → g ≠ b ∧ v'.ownBlock ≠ some g) ∧
    ((∀ n, f n = cov l n) → ok = true ∧ ∀ n, f' n = cov l' n) ∧ (∀ g, v'.ownBlock = some g → v.ownBlock = some g ∨ w.heap.size ≤ g) ∧ (∀ g, V'.ownBlock = some g → V.ownBlock = some g ∨ w.heap.size ≤ g)
  kp : Keep (fun k => k = b ∨ v.ownBlock = some k) w w'
/-- where neither is called -/
theorem StepR.none {w w' : World} {b : Nat} {v : Value} {l : List (Int × Int)} {V : Value} {f : Int → Bool} (h : SetAt w b v l (tot l)) (hg : Good (-1) l) (hr : Reads w 1 V 16384 (bitV 16384 f)) (ha : ∀ g, V.ownBlock = some g → g ≠ b ∧ v.ownBlock ≠ some g) (hb : Below w.heap.size w w') :
    StepR w w' (.returned (.tuple #[V, .bool true])) b v l V f :=
  ⟨⟨v, l, V, f, true, rfl, hg, h.below hb, hr.keep (Keep.none hb) (fun _ _ _ => id), ha, fun h => ⟨rfl, h⟩, fun _ => .inl, fun _ => .inl⟩, (Keep.none hb).mono (fun _ _ h => h.elim)⟩
theorem OpR.no {vb : Bool} {w wz w' : World} {e : Ending} {b : Nat} {v : Value} {l : List (Int × Int)} {V : Value} {f : Int → Bool} {a c : Int} (h : OpR vb wz w' e b v l a c) (hr : rightB a c = false) (hb : Below w.heap.size w wz) (hbw : b < w.heap.size) (hvw : ∀ g, v.ownBlock = some g → g < w.heap.size) (hrd : Reads w 1 V 16384 (bitV 16384 f)) (ha : ∀ g, V.ownBlock = some g → g ≠ b ∧ v.ownBlock ≠ some g) (hg : Good (-1) l) :
    e = .returned (.tuple #[.int .i64 0, .int .i64 11]) ∧ Hid (StepR w w' (.returned (.tuple #[V, .bool true])) b v l V f) := by
  obtain ⟨v', l', g1, g2, rfl, h1, h2, h3⟩ := h
  obtain rfl : l' = l := good_uniq g1 hg (fun n => by rw [g2, hr]; rfl)
  rw [hr]
  have hk : Keep (fun k => k = b ∨ v.ownBlock = some k) w w' := ((Keep.none hb).mono (fun _ _ h => h.elim)).trans h3 (fun _ _ h => h)
  refine ⟨rfl, ⟨v', l', V, f, true, rfl, g1, h1, hrd.keep hk (fun g hg _ e => e.elim (ha g hg).1 (ha g hg).2), fun g hg => ⟨(ha g hg).1, fun e => ?_⟩, fun h => ⟨rfl, h⟩, fun g hg => (h2 g hg).imp id (fun h => Nat.le_trans hb.size h), fun _ => .inl⟩, hk⟩
  rcases h2 g e with h | h
  · exact (ha g hg).2 h
  · have := hrd.lt g hg (by omega)
    have := hb.size
    omega
theorem OpR.yes {vb : Bool} {w wz w2 : World} {e : Ending} {b : Nat} {v : Value} {l : List (Int × Int)} {V : Value} {f : Int → Bool} {a c : Int} (h : OpR vb wz w2 e b v l a c) (hr : rightB a c = true) (hb : Below w.heap.size w wz) (hrd : Reads w 1 V 16384 (bitV 16384 f)) (ha : ∀ g, V.ownBlock = some g → g ≠ b ∧ v.ownBlock ≠ some g) :
    ∃ T : Nat, e = .returned (.tuple #[.int .i64 (T : Int), .int .i64 0]) ∧ Hid (Reads w2 1 V 16384 (bitV 16384 f)) ∧ Hid (∀ (w' : World) (A : Option Addr) (k : Nat) (ok : Bool), w'.ownsRow w2.heap.size 3 1 (.slice A 16384 k) 16384 (bitV 16384 (setF f a c vb)) → Below w2.heap.size w2 w' → ok = ((T : Int) == ((chg f a c vb 16384 : Nat) : Int)) → StepR w w' (.returned (.tuple #[.slice A 16384 k, .bool ok])) b v l V f) := by
  obtain ⟨v', l', g1, g2, rfl, h1, h2, h3⟩ := h
  rw [hr]
  have hk : Keep (fun k => k = b ∨ v.ownBlock = some k) w w2 := ((Keep.none hb).mono (fun _ _ h => h.elim)).trans h3 (fun _ _ h => h)
  refine ⟨chg (cov l) a c vb 16384, rfl, hrd.keep hk (fun g hg _ e => e.elim (ha g hg).1 (ha g hg).2), fun w' A k ok ho hb2 hok => ?_⟩
  have hs : w.heap.size ≤ w2.heap.size := hk.size
  have hob : ∀ g, (Value.slice A 16384 k).ownBlock = some g → w2.heap.size ≤ g := fun g hg => (own_lt ho hg).1
  have hbl := h1.str.lt
  refine ⟨⟨v', l', _, _, ok, rfl, g1, h1.below hb2, Reads.of_owns ho, fun g hg => ⟨by have := hob g hg; omega, fun e => by have := hob g hg; have := (h1.ne e).2; omega⟩, fun hf => ⟨?_, fun n => ?_⟩, fun g hg => (h2 g hg).imp id (fun h => Nat.le_trans hb.size h), fun g hg => .inr (Nat.le_trans hs (hob g hg))⟩, hk.trans ((Keep.none hb2).mono (fun _ _ h => h.elim)) (fun _ _ h => h)⟩
  · rw [hok, show f = cov l from funext hf]; simp
  · rw [g2, hr, Bool.true_and]
    show (if inB a c n then vb else f n) = _
    rw [hf]
end Go.Proofs.Ytddoefkojlghnaa
