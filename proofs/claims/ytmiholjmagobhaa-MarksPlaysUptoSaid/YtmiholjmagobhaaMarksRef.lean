/- marks: the reference's state, a struct of 27 cells that is handed on by value. -/
import Derived.Test.YtmiholjmagobhaaMarks4
import Derived.Test.YtmiholjmagobhaaCopy
namespace Go.Proofs.Ytmiholjmagobhaa
open Go.RowKit
set_option linter.unusedVariables false
set_option linter.unusedSimpArgs false

/-- the state that tells of a chooser, as cells -/
def stC (c : Cho) : Array Value := #[.int .i64 c.level, .int .i64 (c.wait 0), .int .i64 (c.wait 1), .int .i64 (c.wait 2), .int .i64 (c.wait 3), .int .i64 (c.wait 4), .int .i64 (c.wait 5), .int .i64 (c.wait 6), .int .i64 (c.wait 7), .int .i64 (c.till 0), .int .i64 (c.till 1), .int .i64 (c.till 2), .int .i64 (c.till 3), .int .i64 (c.till 4), .int .i64 (c.till 5), .int .i64 (c.till 6), .int .i64 (c.till 7), .int .i64 (c.join 0), .int .i64 (c.join 1), .int .i64 (c.join 2), .int .i64 (c.join 3), .int .i64 (c.join 4), .int .i64 (c.join 5), .int .i64 (c.join 6), .int .i64 (c.join 7), .int .i64 c.longest, .int .i64 c.fresh]
theorem stC_size (c : Cho) : (stC c).size = 27 := rfl
theorem stC_one (c : Cho) : (stC c).all (·.oneCell') = true := by simp [stC, Value.oneCell']
theorem info_st : (Try.prog.info? 42).map (·.size) = some 27 := by kernel_rfl
/-- the whole state out of its box -/
theorem wpList_loadS {ops : Array Oper} {rest : List Oper} {op : Oper} {a : Act} {w : World} {Q : Exit → Act → World → Prop} (hgd : op.guard = none) (x : Operand) (ho : op.op = .load 42 x)
    (b : Nat) (hx : a.eval x = .pointer (some ⟨b, 0, none⟩)) (c : Cho) (hb : Blk w b (stC c) 42) (h : wpList Try.prog ops Q rest (a.put op.dst (.agg (stC c))) w) : wpList Try.prog ops Q (op :: rest) a w := by
  refine wpList_plain hgd fun _ hK => ?_
  have hr := run_loadVar_row (P := Try.prog) w b _ _ (stC c) (0, 0) _ hb Try.underlying42 rfl info_st
  unfold Oper.wp execOp
  simp only [ho, hx, Instr.loadAt, Instr.sureAddr, Sem.run_bind, Sem.run_pure, Result.andThen_ok, hr]
  exact hK _ _ h
/-- the whole state into its box -/
theorem wpList_storeS {ops : Array Oper} {rest : List Oper} {op : Oper} {a : Act} {w : World} {Q : Exit → Act → World → Prop} (hgd : op.guard = none) (x y : Operand) (ho : op.op = .store 42 x y)
    (b : Nat) (hx : a.eval x = .pointer (some ⟨b, 0, none⟩)) (c : Cho) (hy : a.eval y = .agg (stC c)) (cs : Array Value) (hb : Blk w b cs 42) (hs : cs.size = 27)
    (h : ∀ w', Hid (Blk w' b (stC c) 42) → Hid (Keep (fun k => k = b) w w') → wpList Try.prog ops Q rest (a.put op.dst undef) w') : wpList Try.prog ops Q (op :: rest) a w := by
  refine wpList_plain hgd fun _ hK => ?_
  have hr := run_storeVar_row (P := Try.prog) w b _ _ cs (stC c) hb info_st (hs.trans (stC_size c).symm) (stC_one c)
  unfold Oper.wp execOp
  simp only [ho, hx, hy, Instr.storeAt, Instr.sureAddr, Sem.run_bind, Sem.run_pure, Result.andThen_ok, hr]
  exact hK _ _ (h _ (setRow_heap w b cs _ _ _ hb) ((Keep.refl (fun k => k = b) w).setRow (.inl rfl) _))
theorem st_wait (c : Cho) {n : Nat} (h : n < 8) : (stC c)[1 + n]? = some (.int .i64 (c.wait n)) := by
  rcases n with _|_|_|_|_|_|_|_|n <;> first | rfl | omega
theorem st_till (c : Cho) {n : Nat} (h : n < 8) : (stC c)[9 + n]? = some (.int .i64 (c.till n)) := by
  rcases n with _|_|_|_|_|_|_|_|n <;> first | rfl | omega
theorem st_join (c : Cho) {n : Nat} (h : n < 8) : (stC c)[17 + n]? = some (.int .i64 (c.join n)) := by
  rcases n with _|_|_|_|_|_|_|_|n <;> first | rfl | omega
theorem st_set_wait (c : Cho) {n : Nat} (h : n < 8) (x : Int) : (stC c).setIfInBounds (1 + n) (.int .i64 x) = stC { c with wait := upd c.wait n x } := by
  rcases n with _|_|_|_|_|_|_|_|n <;> first | rfl | omega
theorem st_set_till (c : Cho) {n : Nat} (h : n < 8) (x : Int) : (stC c).setIfInBounds (9 + n) (.int .i64 x) = stC { c with till := upd c.till n x } := by
  rcases n with _|_|_|_|_|_|_|_|n <;> first | rfl | omega
theorem st_set_join (c : Cho) {n : Nat} (h : n < 8) (x : Int) : (stC c).setIfInBounds (17 + n) (.int .i64 x) = stC { c with join := upd c.join n x } := by
  rcases n with _|_|_|_|_|_|_|_|n <;> first | rfl | omega
theorem st_set_level (c : Cho) (x : Int) : (stC c).setIfInBounds 0 (.int .i64 x) = stC { c with level := x } := rfl
/-- a box of zeros -/
def zC : Array Value := #[.int .i64 0, .int .i64 0, .int .i64 0, .int .i64 0, .int .i64 0, .int .i64 0, .int .i64 0, .int .i64 0, .int .i64 0, .int .i64 0, .int .i64 0, .int .i64 0, .int .i64 0, .int .i64 0, .int .i64 0, .int .i64 0, .int .i64 0, .int .i64 0, .int .i64 0, .int .i64 0, .int .i64 0, .int .i64 0, .int .i64 0, .int .i64 0, .int .i64 0, .int .i64 0, .int .i64 0]
theorem zC_size : zC.size = 27 := rfl
theorem boxes2 (w : World) (a b : Array Value) (T : TypeId) : Blk ((w.alloc (.cells a T)).alloc (.cells b T)) w.heap.size a T ∧ Blk ((w.alloc (.cells a T)).alloc (.cells b T)) (w.heap.size + 1) b T ∧ Below w.heap.size w ((w.alloc (.cells a T)).alloc (.cells b T)) ∧ ((w.alloc (.cells a T)).alloc (.cells b T)).heap.size = w.heap.size + 2 := by
  have hz : (w.alloc (.cells a T)).heap.size = w.heap.size + 1 := by simp
  have h1 := Blk.new w a T
  have h2 := Blk.new (w.alloc (.cells a T)) b T
  rw [hz] at h2
  have h3 : Below (w.alloc (.cells a T)).heap.size (w.alloc (.cells a T)) ((w.alloc (.cells a T)).alloc (.cells b T)) := (Below.refl _ _).alloc (Nat.le_refl _) _
  have h4 : Below w.heap.size w (w.alloc (.cells a T)) := (Below.refl _ w).alloc (Nat.le_refl _) _
  exact ⟨h1.keep (Keep.none h3) id, h2, bmore h4 h3 h4.size, by simp⟩
end Go.Proofs.Ytmiholjmagobhaa
