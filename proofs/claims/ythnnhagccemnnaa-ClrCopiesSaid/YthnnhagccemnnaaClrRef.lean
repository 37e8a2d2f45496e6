/- clr: the reference's state, a struct of 193 cells that is handed on by value. -/
import Derived.Test.YthnnhagccemnnaaClr3
import Derived.Test.YthnnhagccemnnaaCopy
import Derived.Laws.Rows
import Derived.Laws.Tables
import Derived.Deep.MidRow
namespace Go.Proofs.Ythnnhagccemnnaa
open Go.RowKit
set_option linter.unusedVariables false
set_option linter.unusedSimpArgs false

structure CSt where
  at' : Nat → Option (Int × Int)
  clr : Int
def tkO (x : Option (Int × Int)) : Int := match x with | some p => p.1 | none => 0
def rtO (x : Option (Int × Int)) : Int := match x with | some p => p.2 | none => 0
def cellC (s : CSt) (i : Nat) : Value := if i = 192 then .int .i64 s.clr else if i % 3 = 0 then .bool (s.at' (i / 3)).isSome else if i % 3 = 1 then .int .i64 (tkO (s.at' (i / 3))) else .int .u64 (rtO (s.at' (i / 3)))
/-- the state that tells of a book, as cells -/
def stC (s : CSt) : Array Value := ((List.range 193).map (cellC s)).toArray
theorem stC_size (s : CSt) : (stC s).size = 193 := by simp [stC]
theorem stC_get (s : CSt) {k : Nat} (h : k < 193) : (stC s)[k]? = some (cellC s k) := by simp [stC, h]
theorem cellC_one (s : CSt) (i : Nat) : (cellC s i).oneCell' = true := by
  unfold cellC
  repeat' split
  all_goals rfl
theorem stC_one (s : CSt) : (stC s).all (·.oneCell') = true := by
  rw [Array.all_eq_true_iff_forall_mem]
  intro v hv
  obtain ⟨i, -, rfl⟩ : ∃ i, i < 193 ∧ cellC s i = v := by simpa [stC] using hv
  exact cellC_one s i
theorem stC_ext {s : CSt} {a : Array Value} (hs : a.size = 193) (h : ∀ k, k < 193 → a[k]? = some (cellC s k)) : a = stC s := by
  apply Array.ext_getElem?
  intro k
  by_cases hk : k < 193
  · rw [h k hk, stC_get s hk]
  · rw [Array.getElem?_eq_none (by omega), Array.getElem?_eq_none (by rw [stC_size]; omega)]
theorem st_some (s : CSt) {n : Nat} (h : n < 64) : (stC s)[n * 3]? = some (.bool (s.at' n).isSome) := by
  rw [stC_get s (by omega)]
  unfold cellC
  rw [if_neg (by omega), if_pos (by omega), show n * 3 / 3 = n by omega]
theorem st_tick (s : CSt) {n : Nat} (h : n < 64) : (stC s)[n * 3 + 1]? = some (.int .i64 (tkO (s.at' n))) := by
  rw [stC_get s (by omega)]
  unfold cellC
  rw [if_neg (by omega), if_neg (by omega), if_pos (by omega), show (n * 3 + 1) / 3 = n by omega]
theorem st_rate (s : CSt) {n : Nat} (h : n < 64) : (stC s)[n * 3 + 2]? = some (.int .u64 (rtO (s.at' n))) := by
  rw [stC_get s (by omega)]
  unfold cellC
  rw [if_neg (by omega), if_neg (by omega), if_neg (by omega), show (n * 3 + 2) / 3 = n by omega]
theorem st_clr (s : CSt) : (stC s)[192]? = some (.int .i64 s.clr) := by
  rw [stC_get s (by omega)]
  rfl
def updO (f : Nat → Option (Int × Int)) (n : Nat) (x : Option (Int × Int)) : Nat → Option (Int × Int) := fun i => if i = n then x else f i
theorem st_set_clr (s : CSt) (x : Int) : (stC s).setIfInBounds 192 (.int .i64 x) = stC { s with clr := x } := by
  apply stC_ext (by simp [stC_size])
  intro k hk
  rw [Array.getElem?_setIfInBounds]
  by_cases h : 192 = k
  · subst h; simp [stC_size, cellC]
  · rw [if_neg h, stC_get s hk]
    unfold cellC
    rw [if_neg (show ¬ k = 192 by omega), if_neg (show ¬ k = 192 by omega)]
theorem st_set (s : CSt) {n : Nat} (h : n < 64) (x : Option (Int × Int)) : (((stC s).setIfInBounds (n * 3) (.bool x.isSome)).setIfInBounds (n * 3 + 1) (.int .i64 (tkO x))).setIfInBounds (n * 3 + 2) (.int .u64 (rtO x)) = stC { s with at' := updO s.at' n x } := by
  apply stC_ext (by simp [stC_size])
  intro k hk
  simp only [Array.getElem?_setIfInBounds, Array.size_setIfInBounds, stC_size]
  rcases (by omega : k = n * 3 + 2 ∨ k = n * 3 + 1 ∨ k = n * 3 ∨ (k ≠ n * 3 + 2 ∧ k ≠ n * 3 + 1 ∧ k ≠ n * 3)) with rfl | rfl | rfl | ⟨h2, h1, h0⟩
  · rw [if_pos rfl, if_pos (by omega)]
    unfold cellC updO
    rw [if_neg (by omega), if_neg (by omega), if_neg (by omega), show (n * 3 + 2) / 3 = n by omega]
    simp
  · rw [if_neg (by omega), if_pos rfl, if_pos (by omega)]
    unfold cellC updO
    rw [if_neg (by omega), if_neg (by omega), if_pos (by omega), show (n * 3 + 1) / 3 = n by omega]
    simp
  · rw [if_neg (by omega), if_neg (by omega), if_pos rfl, if_pos (by omega)]
    unfold cellC updO
    rw [if_neg (by omega), if_pos (by omega), show n * 3 / 3 = n by omega]
    simp
  · rw [if_neg (by omega), if_neg (by omega), if_neg (by omega), stC_get s hk]
    unfold cellC updO
    by_cases hc : k = 192
    · rw [if_pos hc, if_pos hc]
    · rw [if_neg hc, if_neg hc]
      have : k / 3 ≠ n := by omega
      simp [this]
/-- the states behind the reference's stores -/
theorem st_put (s : CSt) {n : Nat} (h : n < 64) (tk rt : Int) : (((stC s).setIfInBounds (n * 3) (.bool true)).setIfInBounds (n * 3 + 1) (.int .i64 tk)).setIfInBounds (n * 3 + 2) (.int .u64 rt) = stC ⟨updO s.at' n (some (tk, rt)), s.clr⟩ := st_set s h (some (tk, rt))
theorem st_gone (s : CSt) {n : Nat} (h : n < 64) : (((stC s).setIfInBounds (n * 3) (.bool false)).setIfInBounds (n * 3 + 1) (.int .i64 0)).setIfInBounds (n * 3 + 2) (.int .u64 0) = stC ⟨updO s.at' n none, s.clr⟩ := st_set s h none
/-- two stores into the state's own box: a clr, a report -/
theorem blk_put {w : World} {b : Nat} {s : CSt} {T : TypeId} (hb : Blk w b (stC s) T) {n : Nat} (h : n < 64) (tk rt : Int) :
    Blk (((w.setCell ⟨b, n * 3, none⟩ (.bool true)).setCell ⟨b, n * 3 + 1, none⟩ (.int .i64 tk)).setCell ⟨b, n * 3 + 2, none⟩ (.int .u64 rt)) b (stC ⟨updO s.at' n (some (tk, rt)), s.clr⟩) T := by
  rw [← st_put s h]
  exact ((hb.set _ _).set _ _).set _ _
theorem blk_gone {w : World} {b : Nat} {s : CSt} {T : TypeId} (hb : Blk w b (stC s) T) {n : Nat} (h : n < 64) :
    Blk (((w.setCell ⟨b, n * 3, none⟩ (.bool false)).setCell ⟨b, n * 3 + 1, none⟩ (.int .i64 0)).setCell ⟨b, n * 3 + 2, none⟩ (.int .u64 0)) b (stC ⟨updO s.at' n none, s.clr⟩) T := by
  rw [← st_gone s h]
  exact ((hb.set _ _).set _ _).set _ _
theorem blk_clr {w : World} {b : Nat} {s : CSt} {T : TypeId} (hb : Blk w b (stC s) T) (c : Int) : Blk (w.setCell ⟨b, 192, none⟩ (.int .i64 c)) b (stC ⟨s.at', c⟩) T := by
  have := hb.set 192 (.int .i64 c)
  rwa [st_set_clr] at this
theorem blk_off3 {w : World} {b b' : Nat} {cs : Array Value} {T : TypeId} (hb : Blk w b cs T) (h : ¬ b = b') {o0 o1 o2 : Nat} {v0 v1 v2 : Value} :
    Blk (((w.setCell ⟨b', o0, none⟩ v0).setCell ⟨b', o1, none⟩ v1).setCell ⟨b', o2, none⟩ v2) b cs T :=
  ((hb.setOther (by simpa using h) _).setOther (by simpa using h) _).setOther (by simpa using h) _
theorem below_set3 {w0 w : World} {B b : Nat} (hb : Below B w0 w) (h : B ≤ b) {o0 o1 o2 : Nat} {v0 v1 v2 : Value} :
    Below B w0 (((w.setCell ⟨b, o0, none⟩ v0).setCell ⟨b, o1, none⟩ v1).setCell ⟨b, o2, none⟩ v2) :=
  ((hb.setCell (p := ⟨b, o0, none⟩) h _).setCell (p := ⟨b, o1, none⟩) h _).setCell (p := ⟨b, o2, none⟩) h _
/-- the state with nothing in it -/
def st0 (c : Int) : CSt := ⟨fun _ => none, c⟩
theorem info_st : (Try.prog.info? 45).map (fun i => (i.zero, i.size)) = some (some (.agg (stC (st0 0))), 193) := by kernel_rfl
theorem info_st1 : (Try.prog.info? 45).map (·.size) = some 193 := by
  have h := info_st
  cases e : Try.prog.info? 45 with
  | none => rw [e] at h; cases h
  | some i => rw [e] at h; simp only [Option.map_some, Option.some.injEq, Prod.mk.injEq] at h; simp [h.2]
theorem info_st2 : (Try.prog.info? 45).bind (·.zero) = some (.agg (stC (st0 0))) := by
  have h := info_st
  cases e : Try.prog.info? 45 with
  | none => rw [e] at h; cases h
  | some i => rw [e] at h; simp only [Option.map_some, Option.some.injEq, Prod.mk.injEq] at h; simp [h.1]
theorem info_ar : (Try.prog.info? 43).map (·.size) = some 192 := by kernel_rfl
section
variable {ops : Array Oper} {rest : List Oper} {op : Oper} {a : Act} {w : World} {Q : Exit → Act → World → Prop}
/-- the whole state out of its box -/
theorem wpList_loadS (hgd : op.guard = none) (x : Operand) (ho : op.op = .load 45 x)
    (b : Nat) (hx : a.eval x = .pointer (some ⟨b, 0, none⟩)) (s : CSt) (hb : Blk w b (stC s) 45) (h : wpList Try.prog ops Q rest (a.put op.dst (.agg (stC s))) w) : wpList Try.prog ops Q (op :: rest) a w :=
  wpList_load_row hgd _ x ho b hx _ _ _ _ hb Try.underlying45 rfl (by rw [stC_size]; exact info_st1) h
/-- the whole state into its box -/
theorem wpList_storeS (hgd : op.guard = none) (x y : Operand) (ho : op.op = .store 45 x y)
    (b : Nat) (hx : a.eval x = .pointer (some ⟨b, 0, none⟩)) (s s0 : CSt) (hy : a.eval y = .agg (stC s)) (hb : Blk w b (stC s0) 45)
    (h : ∀ w', Hid (Blk w' b (stC s) 45) → Hid (Keep (fun k => k = b) w w') → wpList Try.prog ops Q rest (a.put op.dst undef) w') : wpList Try.prog ops Q (op :: rest) a w := by
  refine wpList_plain hgd fun _ hK => ?_
  have hr := run_storeVar_row (P := Try.prog) w b _ _ (stC s0) (stC s) hb (by rw [stC_size]; exact info_st1) (by rw [stC_size, stC_size]) (stC_one s)
  unfold Oper.wp execOp
  simp only [ho, hx, hy, Instr.storeAt, Instr.sureAddr, Sem.run_bind, Sem.run_pure, Result.andThen_ok, hr]
  exact hK _ _ (h _ (setRow_heap w b (stC s0) _ _ _ hb) ((Keep.refl (fun k => k = b) w).setRow (.inl rfl) _))
/-- a box for a state -/
theorem wpList_boxS (hgd : op.guard = none) (x : Operand) (ho : op.op = .box 45 x)
    (s : CSt) (hx : a.eval x = .agg (stC s))
    (h : ∀ w', Hid (w' = w.alloc (.cells (stC s) 45)) → Hid (Blk w' w.heap.size (stC s) 45) → Hid (Below w.heap.size w w') → Hid (w'.heap.size = w.heap.size + 1) → wpList Try.prog ops Q rest (a.put op.dst (.pointer (some ⟨w.heap.size, 0, none⟩))) w') : wpList Try.prog ops Q (op :: rest) a w := by
  refine wpList_plain hgd fun _ hK => ?_
  unfold Oper.wp execOp
  simp only [ho, hx, Instr.box, newVar, newRow, Value.cells, Sem.run_bind, Sem.run_pure, Result.andThen_ok, run_newObj_alloc]
  exact hK _ _ (h _ rfl (Blk.new w _ _) ((Below.refl _ w).alloc (Nat.le_refl _) _) (show _ = _ by simp))
/-- a box of zeros -/
theorem wpList_allocS (hgd : op.guard = none) (ho : op.op = .alloc 45)
    (h : ∀ w', Hid (w' = w.alloc (.cells (stC (st0 0)) 45)) → Hid (Blk w' w.heap.size (stC (st0 0)) 45) → Hid (Below w.heap.size w w') → Hid (w'.heap.size = w.heap.size + 1) → wpList Try.prog ops Q rest (a.put op.dst (.pointer (some ⟨w.heap.size, 0, none⟩))) w') : wpList Try.prog ops Q (op :: rest) a w := by
  refine wpList_plain hgd fun _ hK => ?_
  have hz : (zeroValue 45).run Try.prog w = .ok (.agg (stC (st0 0))) w := by
    have h2 := info_st2
    cases e : Try.prog.info? 45 with
    | none => rw [e] at h2; cases h2
    | some i =>
      rw [e] at h2
      have h3 : i.zero = some (.agg (stC (st0 0))) := h2
      simp [zeroValue, typeInfo, e, h3]
  unfold Oper.wp execOp
  simp only [ho, Instr.alloc, newVar, newRow, Value.cells, Sem.run_bind, Sem.run_pure, Result.andThen_ok, run_newObj_alloc, hz]
  exact hK _ _ (h _ rfl (Blk.new w _ _) ((Below.refl _ w).alloc (Nat.le_refl _) _) (show _ = _ by simp))
end
theorem boxes2' (w : World) (a b : Array Value) (T : TypeId) : Blk ((w.alloc (.cells a T)).alloc (.cells b T)) w.heap.size a T ∧ Blk ((w.alloc (.cells a T)).alloc (.cells b T)) (w.heap.size + 1) b T ∧ Below w.heap.size w ((w.alloc (.cells a T)).alloc (.cells b T)) ∧ ((w.alloc (.cells a T)).alloc (.cells b T)).heap.size = w.heap.size + 2 := by
  have hz : (w.alloc (.cells a T)).heap.size = w.heap.size + 1 := by simp
  have h1 := Blk.new w a T
  have h2 := Blk.new (w.alloc (.cells a T)) b T
  rw [hz] at h2
  have h3 : Below (w.alloc (.cells a T)).heap.size (w.alloc (.cells a T)) ((w.alloc (.cells a T)).alloc (.cells b T)) := (Below.refl _ _).alloc (Nat.le_refl _) _
  have h4 : Below w.heap.size w (w.alloc (.cells a T)) := (Below.refl _ w).alloc (Nat.le_refl _) _
  exact ⟨h1.keep (Keep.none h3) id, h2, bmore h4 h3 h4.size, by simp⟩
end Go.Proofs.Ythnnhagccemnnaa
