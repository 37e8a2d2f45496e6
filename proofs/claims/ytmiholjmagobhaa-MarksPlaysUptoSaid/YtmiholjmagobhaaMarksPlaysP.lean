/- marks: the reference's Mark does what the chooser's does; the laws' pieces. -/
import Derived.Test.YtmiholjmagobhaaMarksRef5
import Derived.Test.YtmiholjmagobhaaMarksSteps
import Derived.Test.YtmiholjmagobhaaHeldTail
import Derived.BigQuiet
namespace Go.Proofs.Ytmiholjmagobhaa
open Go.RowKit
set_option linter.unusedVariables false
set_option linter.unusedSimpArgs false

theorem refmark_any (c : Cho) (n own now : Int) (A : Option Addr) (m c0 : Nat) (l : List Int) (w : World) (hok : c.Ok) (hr : Reads w 1 (.slice A m c0) m (l.map (Value.int .u64))) (hl : l.length = m) :
    Calls Try.prog 18 #[.agg (stC c), .int .i64 n, .slice A m c0, .int .u64 own, .int .i64 now] w fun e w' => e = .returned (.tuple #[.agg (stC (c.mark n l own now).1), .int .i64 (c.mark n l own now).2]) ∧ Below w.heap.size w w' := by
  have hlo := hok.lo
  have hhi := hok.hi
  by_cases h0 : n < 1 ∨ 7 < n ∨ (m : Int) ≤ n ∨ now < 0 ∨ 1099511627776 < now
  · have hm : c.mark n l own now = (c, 0) := by
      unfold Cho.mark
      split
      · rfl
      · rename_i hn
        rw [if_neg (by omega), if_neg (by omega)]
    rw [hm]
    exact refmark_no c n own now A m c0 w h0
  · obtain ⟨k, rfl⟩ : ∃ k : Nat, n = k := ⟨n.toNat, by omega⟩
    obtain ⟨u, hu⟩ : ∃ u, l[k]? = some u := ⟨_, List.getElem?_eq_getElem (by omega)⟩
    have hg : l.getD (k : Int).toNat 0 = u := by rw [Int.toNat_natCast, List.getD_eq_getElem?_getD, hu]; rfl
    unfold Cho.mark
    rw [if_neg (by omega), hg]
    by_cases h1 : (k : Int) = c.level ∧ 0 < (k : Int) ∧ own < u
    · rw [if_pos h1]
      exact refmark_drop c k own now u A m c0 l w hok (by omega) (by omega) (by omega) (by omega) hr hu h1.1.symm h1.2.2
    · rw [if_neg h1]
      by_cases h2 : (k : Int) = c.level + 1 ∧ 0 < (k : Int) ∧ u ≤ own ∧ c.till (k : Int).toNat ≤ now
      · rw [if_pos h2]
        rw [Int.toNat_natCast] at h2 ⊢
        obtain ⟨q, rfl⟩ : ∃ q, k = q + 1 := ⟨k - 1, by omega⟩
        exact refmark_join c q own now u A m c0 l w hok (by omega) (by omega) (by omega) hr hu (by omega) h2.2.2.1 h2.2.2.2
      · rw [if_neg h2]
        rw [Int.toNat_natCast] at h2
        exact refmark_stay c k own now u A m c0 l w (by omega) (by omega) (by omega) (by omega) ⟨hlo, hhi⟩ hr hu (by omega) (by omega)
/-- the state out of its box, as the walk meets it -/
theorem run_loadS {w : World} {b : Nat} {c : Cho} (hb : Blk w b (stC c) 42) : (Instr.loadAt 42 (.pointer (some ⟨b, 0, none⟩))).run Try.prog w = .ok (.agg (stC c)) w := by
  have hr := run_loadVar_row (P := Try.prog) w b _ _ (stC c) (0, 0) _ hb Try.underlying42 rfl info_st
  simp only [Instr.loadAt, Instr.sureAddr, Sem.run_bind, Sem.run_pure, Result.andThen_ok, hr]
theorem exec_loadS {a : Act} {o : Oper} {w : World} (x : Operand) (ho : o.op = .load 42 x) (b : Nat) (hx : a.eval x = .pointer (some ⟨b, 0, none⟩)) (c : Cho) (hb : Blk w b (stC c) 42) : (execOp a.eval o).run Try.prog w = .ok (.value (.agg (stC c))) w := by
  unfold execOp
  simp only [ho, hx, Sem.run_bind, Sem.run_pure, Result.andThen_ok, run_loadS hb]
/-- the load, in a class of worlds -/
theorem quiet_loadS {C : World → Prop} {a : Act} {o : Oper} {K : Act → Prop} (x : Operand) (ho : o.op = .load 42 x) (b : Nat) (hx : a.eval x = .pointer (some ⟨b, 0, none⟩)) (c : Cho) (hb : ∀ w, C w → Blk w b (stC c) 42) (h : K (a.put o.dst (.agg (stC c)))) : o.quiet Try.prog a C K :=
  ⟨_, fun w hw => by unfold Oper.quietAt; rw [exec_loadS x ho b hx c (hb w hw)]; exact ⟨rfl, rfl⟩, h⟩
theorem run_storeS {w : World} {b : Nat} {cs : Array Value} (c : Cho) (hb : Blk w b cs 42) (hs : cs.size = 27) : ∃ w', (Instr.storeAt 42 (.pointer (some ⟨b, 0, none⟩)) (.agg (stC c))).run Try.prog w = .ok () w' ∧ Hid (Blk w' b (stC c) 42) ∧ Hid (Keep (fun k => k = b) w w') := by
  have hr := run_storeVar_row (P := Try.prog) w b _ _ cs (stC c) hb info_st (hs.trans (stC_size c).symm) (stC_one c)
  exact ⟨_, by simp only [Instr.storeAt, Instr.sureAddr, Sem.run_bind, Sem.run_pure, Result.andThen_ok, hr], setRow_heap w b cs _ _ _ hb, (Keep.refl (fun k => k = b) w).setRow (.inl rfl) _⟩
end Go.Proofs.Ytmiholjmagobhaa
