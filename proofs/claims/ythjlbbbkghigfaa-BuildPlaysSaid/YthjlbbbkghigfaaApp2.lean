/- append of what was made just now, its block by number. -/
import Derived.Test.YthjlbbbkghigfaaApp
namespace Go.Proofs.Ythjlbbbkghigfaa
open Go.RowKit
set_option linter.unusedVariables false
set_option linter.unusedSimpArgs false
section
variable {P : Program}
theorem wpList_app1n {ops : Array Oper} {rest : List Oper} {o : Oper} {ac : Act} {Q : Exit → Act → World → Prop} {w : World} (hgd : o.guard = none) (s x : Operand) (t : TypeId)
    (ho : o.op = .call { callee := .builtin .append, args := #[s, x], argTypes := #[t, t] })
    (base : Nat) (e : TypeId) (i : TypeInfo) (z : Value) (size bytes : Nat) (ht : P.underlying t = some (.slice e)) (hi : P.info? e = some i) (hz : i.zero = some z)
    (hsize : i.size = size) (hby : i.bytes = bytes) (hzs : z.cells.size = size)
    (v : Value) (n : Nat) (xs : List Value) (hs : ac.eval s = v) (hown : w.ownsRow base e size v n xs)
    (nb : Nat) (hnb : nb = w.heap.size)
    (cs : Array Value) (m : Nat) (hx : ac.eval x = .slice (some ⟨nb, 0, none⟩) m m) (hl : cs.size = m * size) (h1 : ∀ u ∈ cs.toList, u.oneCell' = true)
    (h63 : n + m ≤ 1000000000) (hb : bytes ≤ 100000) (hbase : base ≤ w.heap.size)
    (h : ∀ A c' w', w'.ownsRow base e size (.slice A (n + m) c') (n + m) (xs ++ cs.toList) → Keep (fun k => v.ownBlock = some k) w w' →
      (∀ g, (Value.slice A (n + m) c').ownBlock = some g → v.ownBlock = some g ∨ w.heap.size ≤ g) → (A = none → v = .slice none 0 0 ∧ m = 0) → wpList P ops Q rest (ac.put o.dst (.slice A (n + m) c')) w') : wpList P ops Q (o :: rest) ac (w.alloc (.cells cs e)) := by
  subst hnb
  exact wpList_app1 hgd s x t ho base e i z size bytes ht hi hz hsize hby hzs v n xs hs hown cs m hx hl h1 h63 hb hbase h
end
end Go.Proofs.Ythjlbbbkghigfaa
