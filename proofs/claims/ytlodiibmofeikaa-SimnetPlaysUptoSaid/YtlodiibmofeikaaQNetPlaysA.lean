/- simnet: the law's first model. -/
import Derived.Test.YtlodiibmofeikaaQNetStepE
namespace Go.Proofs.Ytlodiibmofeikaa
open Go.RowKit Go.Shelf
set_option linter.unusedVariables false
set_option linter.unusedSimpArgs false
def mdZ (n : Nat) (delay room j lv : Int) (fv lsv : Value) : MD := ⟨n, delay, room, j, lv, .slice none 0 0, lsv, fv, 0, stN0⟩
theorem run_buildZ (a b c d e : Int) (fA lA : Option Addr) (fn fc ln lc : Nat) (w : World) : (Instr.build 59 #[(0, .agg #[.int .i64 a, .int .i64 b, .int .i64 c, .int .i64 d, .int .i64 e]), (3, .slice fA fn fc), (2, .slice lA ln lc)]).run Try.prog w = .ok (.agg #[.int .i64 a, .int .i64 b, .int .i64 c, .int .i64 d, .int .i64 e, .slice none 0 0, .slice lA ln lc, .slice fA fn fc, .int .i64 0, .int .i64 0, .int .i64 0, .int .i64 0, .int .i64 0, .int .i64 0, .int .i64 0]) w := by kernel_rfl
theorem exec_buildZ {ac : Act} {o : Oper} {w : World} (x y z : Operand) (ho : o.op = .build 59 #[(0, x), (3, y), (2, z)]) (n : Nat) (delay room j lv : Int) (fA lA : Option Addr) (fn fc ln lc : Nat)
    (hx : ac.eval x = .agg #[.int .i64 (n : Int), .int .i64 delay, .int .i64 room, .int .i64 j, .int .i64 lv]) (hy : ac.eval y = .slice fA fn fc) (hz : ac.eval z = .slice lA ln lc) : (execOp ac.eval o).run Try.prog w = .ok (.value (.agg (modC (mdZ n delay room j lv (.slice fA fn fc) (.slice lA ln lc))))) w := by
  have hr := run_buildZ (n : Int) delay room j lv fA lA fn fc ln lc w
  unfold execOp
  simp only [ho, List.map_toArray, List.map_cons, List.map_nil, Sem.run_bind, Sem.run_pure, hx, hy, hz, hr, Result.andThen_ok]
  rfl
theorem madeN (n : Nat) : madeCells (Value.slice none 0 0).cells (n * 1) = (List.replicate n (Value.slice none 0 0)).toArray := by
  apply Array.ext
  · rw [size_madeCells, List.size_toArray, List.length_replicate, Nat.mul_one]
  · intro i h1 h2
    rw [size_madeCells] at h1
    simp [madeCells, Value.cells, Nat.mod_one]
theorem make_lists (n : Nat) (hn : n ≤ 100) (w : World) : (Instr.makeSlice 55 (.int .i64 (n : Int)) (.int .i64 (n : Int))).run Try.prog w = .ok (.slice (some ⟨w.heap.size, 0, none⟩) n n) (w.alloc (.cells (List.replicate n (Value.slice none 0 0)).toArray 92)) := by
  obtain ⟨i0, hi, hz0, hz1, hz2⟩ := info_parts info_lists
  have h := run_make (P := Try.prog) w 55 92 i0 _ Try.underlying55 hi hz0 .i64 .i64 (n : Int) (n : Int) (by omega) (by omega) (by rw [hz2]; omega) (by omega)
  rw [hz1, Int.toNat_natCast, madeN] at h
  exact h
end Go.Proofs.Ytlodiibmofeikaa
