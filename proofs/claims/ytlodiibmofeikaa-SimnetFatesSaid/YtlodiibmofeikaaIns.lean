/- Rows of elements of several cells: append within the row, clear, append of zeros. -/
import Derived.Test.YtlodiibmofeikaaApp
import Derived.Test.YtlodiibmofeikaaCopy
import Derived.Lib.AppendZeros
import Derived.Lib.Overlaps
import Derived.Laws.Externs
namespace Go.Proofs.Ytlodiibmofeikaa
open Go.RowKit
set_option linter.unusedVariables false
set_option linter.unusedSimpArgs false
/-- all but one; one more -/
def erase1 {α : Type} (l : List α) (p : Nat) : List α := l.take p ++ l.drop (p + 1)
def put1 {α : Type} (l : List α) (p : Nat) (x : α) : List α := l.take p ++ x :: l.drop p
section
variable {P : Program}

theorem splice_len {α : Type} (L : List α) (o : Nat) (cs : List α) (h : o + cs.length ≤ L.length) : (splice L o cs).length = L.length := length_splice L o cs h
theorem splice_take {α : Type} (L : List α) (o : Nat) (cs : List α) (h : o + cs.length ≤ L.length) : (splice L o cs).take (o + cs.length) = L.take o ++ cs := by
  unfold splice
  rw [← List.append_assoc, List.take_left' (by simp; omega)]

/-- append within the row -/
theorem run_append_in (w : World) (t ty e : TypeId) (i : TypeInfo) (ht : P.underlying t = some (.slice e)) (hi : P.info? e = some i) {size : Nat} (hsize : i.size = size)
    (g n cap : Nat) (cur : Array Value) (hg : Blk w g cur e) (a : Addr) (m c : Nat) (news : List Value) (hl : news.length = m * size) (hnews : ∀ j u, news[j]? = some u → w.cell? (a.add j) = some u) (h1 : ∀ u ∈ news, u.oneCell' = true)
    (hroom : n + m ≤ cap) (hfit : n * size + news.length ≤ cur.size) :
    (Builtin.append_ #[t, t] ty #[.slice (some ⟨g, 0, none⟩) n cap, .slice (some a) m c]).run P w = .ok (.slice (some ⟨g, 0, none⟩) (n + m) cap) (w.setRow g (splice cur.toList (n * size) news).toArray) := by
  subst hsize
  have hr := run_append_room (P := P) w t ty e i ht hi g n cap cur hg a m c news hl hnews h1 hroom hfit
  rw [hr]
  congr 3
  unfold splice
  simp [List.append_assoc]

theorem run_clearN (w : World) (t e ty : TypeId) (z : Value) (ht : P.underlying t = some (.slice e)) (hv : ∀ w, (zeroValue e).run P w = .ok z w) (zs : List Value) (hz : (Builtin.zeroCells z.cells 1).toList = zs) (h1 : ∀ v ∈ zs, v.oneCell' = true)
    (g o c : Nat) (cur : Array Value) (T : TypeId) (hg : Blk w g cur T) (hfit : o + zs.length ≤ cur.size) :
    (Builtin.clear_ #[t] ty #[.slice (some ⟨g, o, none⟩) 1 c]).run P w = .ok (.tuple #[]) (w.setRow g (splice cur.toList o zs).toArray) := by
  have hst := run_storeCells_at P g o T zs 0 cur w hg (by simpa using hfit) h1
  simp only [Nat.add_zero] at hst
  simp [Builtin.clear_, run_underlying ht, hv, hz, hst, splice]

/-- a slice within a longer row -/
theorem ownsRow_cur {w : World} {base : Nat} {e : TypeId} {size : Nat} {g n c : Nat} {xs : List Value} (h : w.ownsRow base e size (.slice (some ⟨g, 0, none⟩) n c) n xs) :
    ∃ cur, base ≤ g ∧ Blk w g cur e ∧ n ≤ c ∧ c ≤ maxLen ∧ cur.size = c * size ∧ cur.toList.take (n * size) = xs := by
  rcases h.2 with ⟨hv, _⟩ | ⟨g', cap, cur, hv, hg, hh, h1, h2, h3, h4⟩
  · cases hv
  · cases hv
    exact ⟨cur, hg, hh, h1, h2, h3, h4⟩
theorem ownsRow_of {w : World} {base : Nat} {e : TypeId} {size : Nat} {g n c : Nat} {xs : List Value} (cur : Array Value) (hb : base ≤ g) (hg : Blk w g cur e) (h1 : n ≤ c) (h2 : c ≤ maxLen) (h3 : cur.size = c * size) (h4 : cur.toList.take (n * size) = xs) (hl : xs.length = n * size) :
    w.ownsRow base e size (.slice (some ⟨g, 0, none⟩) n c) n xs := ⟨hl, .inr ⟨g, c, cur, rfl, hb, hg, h1, h2, h3, h4⟩⟩

theorem wpList_run {w : World} {ops : Array Oper} {rest : List Oper} {o : Oper} {ac : Act} {Q : Exit → Act → World → Prop} (hgd : o.guard = none) (d s : Operand) (t tn : TypeId) (b : Builtin)
    (f : Array TypeId → TypeId → Array Value → Sem Value) (hf : ∀ ats ty cs args, builtin b ats ty cs args = (do pure (.value (← f ats ty args))))
    (ho : o.op = .call { callee := .builtin b, args := #[d, s], argTypes := #[t, tn] }) (vd vs : Value) (hd : ac.eval d = vd) (hs : ac.eval s = vs)
    (v' : Value) (w' : World) (hr : (f #[t, tn] o.type #[vd, vs]).run P w = .ok v' w') (h : wpList P ops Q rest (ac.put o.dst v') w') : wpList P ops Q (o :: rest) ac w := by
  refine wpList_plain hgd fun K hK => ?_
  unfold Oper.wp execOp
  simp only [ho, resolve, invoke, hf, Sem.run_bind, Sem.run_pure, Result.andThen_ok, List.map_toArray, List.map_cons, List.map_nil, hd, hs, hr]
  exact hK _ _ h
theorem step_run {w : World} {ops : Array Oper} {o : Oper} {ac : Act} {K : Act → World → Prop} {Q : Exit → Act → World → Prop} {E : Prop} (hgd : o.guard = none) (d s : Operand) (t tn : TypeId) (b : Builtin)
    (f : Array TypeId → TypeId → Array Value → Sem Value) (hf : ∀ ats ty cs args, builtin b ats ty cs args = (do pure (.value (← f ats ty args))))
    (ho : o.op = .call { callee := .builtin b, args := #[d, s], argTypes := #[t, tn] }) (vd vs : Value) (hd : ac.eval d = vd) (hs : ac.eval s = vs)
    (v' : Value) (w' : World) (hr : (f #[t, tn] o.type #[vd, vs]).run P w = .ok v' w') (h : K (ac.put o.dst v') w') :
    if Region.wanted o (yielded ops ac.tmps) = true then Oper.wp P o ac w K Q else E := by
  have hw : Region.wanted o (yielded ops ac.tmps) = true := by simp [Region.wanted, hgd]
  rw [if_pos hw]
  unfold Oper.wp execOp
  simp only [ho, resolve, invoke, hf, Sem.run_bind, Sem.run_pure, Result.andThen_ok, List.map_toArray, List.map_cons, List.map_nil, hd, hs, hr]
  exact h
theorem wpList_run1 {w : World} {ops : Array Oper} {rest : List Oper} {o : Oper} {ac : Act} {Q : Exit → Act → World → Prop} (hgd : o.guard = none) (s : Operand) (t : TypeId) (b : Builtin)
    (f : Array TypeId → TypeId → Array Value → Sem Value) (hf : ∀ ats ty cs args, builtin b ats ty cs args = (do pure (.value (← f ats ty args))))
    (ho : o.op = .call { callee := .builtin b, args := #[s], argTypes := #[t] }) (vs : Value) (hs : ac.eval s = vs)
    (v' : Value) (w' : World) (hr : (f #[t] o.type #[vs]).run P w = .ok v' w') (h : wpList P ops Q rest (ac.put o.dst v') w') : wpList P ops Q (o :: rest) ac w := by
  refine wpList_plain hgd fun K hK => ?_
  unfold Oper.wp execOp
  simp only [ho, resolve, invoke, hf, Sem.run_bind, Sem.run_pure, Result.andThen_ok, List.map_toArray, List.map_cons, List.map_nil, hs, hr]
  exact hK _ _ h
/-- append of zeros where there is no room -/
theorem run_append_zg (w : World) (t tn ty e : TypeId) (i : TypeInfo) (z : Value) (kk kn : IntKind) (ht : P.underlying t = some (.slice e)) (htn : P.underlying tn = some (.int kn)) (hi : P.info? e = some i) (hz : i.zero = some z)
    {size : Nat} (hsize : i.size = size) (hzs : z.cells.size = size) (b : Addr) (n cap : Nat) (olds : List Value) (hlo : olds.length = n * size) (holds : ∀ j v, olds[j]? = some v → w.cell? (b.add j) = some v)
    (k : Nat) (h0 : 0 < k) (hs : 0 < size) (hg : cap < n + k) (hbig : n + k ≤ 1000000100) (hby : i.bytes ≤ 100000) :
    ∃ cap' rest, n + k ≤ cap' ∧ cap' ≤ maxLen ∧ rest.length = (cap' - n) * size ∧
      (Builtin.append_ #[t, tn] ty #[.slice (some b) n cap, .int kk (k : Int)]).run P w = .ok (.slice (some ⟨w.heap.size, 0, none⟩) (n + k) cap') (w.drew.alloc (.cells (olds ++ rest).toArray e)) := by
  subst hsize
  have hge := grownCap_ge w (n + k) cap e
  have hml := grownCap_le_maxLen w (n + k) cap e (by unfold maxLen; omega)
  refine ⟨grownCap w (n + k) cap e, (Builtin.zeroCells z.cells k).toList ++ (Builtin.zeroCells z.cells (grownCap w (n + k) cap e - (n + k))).toList, hge, hml, ?_, ?_⟩
  · rw [List.length_append, Array.length_toList, Array.length_toList, size_zeroCells, size_zeroCells, hzs, ← Nat.add_mul]
    congr 1; omega
  · have hbb : (n + k) * i.bytes ≤ 140737488355328 := Nat.le_trans (Nat.mul_le_mul hbig hby) (by decide)
    have hkb : k * i.bytes ≤ (n + k) * i.bytes := Nat.mul_le_mul_right _ (by omega)
    have hn : ¬ (n + k ≤ cap) := by omega
    have hw : IntKind.i64.wrap (k : Int) = k := by rw [IntKind.wrap_i64]; omega
    have h63' : ¬ (9223372036854775807 < ((n : Int) + (k : Int))) := by omega
    have h48' : ¬ (281474976710656 < Builtin.nextslicecap (n + k) cap * i.bytes) := by have := growslice_fits (bytes := i.bytes) hg hbb; omega
    have h48i : ¬ (281474976710656 < (k : Int) * (i.bytes : Int)) := by rw [← Int.natCast_mul]; omega
    have hneg : ¬ ((k : Int) < 0) := by omega
    have hns : ¬ (k * i.size = 0) := Nat.mul_ne_zero (by omega) (by omega)
    have hfo := run_firstCells_some (P := P) w.drew i.size n b n cap olds hlo (by simpa using holds)
    simp [Builtin.append_, run_underlying ht, run_underlying htn, sizeOf, typeInfo, zeroValue, hi, hz, asInt, asIntOf, hw, hn, hneg, hns, h63', h48', h48i, Question.forced, hfo, newRow, grownCap]
    congr 2
    apply Array.ext'
    simp
theorem bclear : ∀ ats ty cs args, builtin .clear ats ty cs args = (do pure (.value (← Builtin.clear_ ats ty args))) := fun _ _ _ _ => rfl
theorem bappend : ∀ ats ty cs args, builtin .append ats ty cs args = (do pure (.value (← Builtin.append_ ats ty args))) := fun _ _ _ _ => rfl
theorem bcopy : ∀ ats ty cs args, builtin .copy ats ty cs args = (do pure (.value (← Builtin.copy_ ats ty args))) := fun _ _ _ _ => rfl
end
end Go.Proofs.Ytlodiibmofeikaa
