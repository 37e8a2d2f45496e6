/- marks: the cases of the laws; light. -/
import Derived.Test.YtmiholjmagobhaaMarksLaws
import Derived.Test.YtmiholjmagobhaaElem
namespace Go.Proofs.Ytmiholjmagobhaa
open Go.RowKit
set_option linter.unusedVariables false
set_option linter.unusedSimpArgs false

structure OpD where
  kind : Int
  layer : Int
  later : Int
  rv : Value
  rates : List Int
  own : Int
def opCells (o : OpD) : List Value := [.int .i64 o.kind, .int .i64 o.layer, .int .i64 o.later, o.rv, .int .u64 o.own]
theorem opCells_len (o : OpD) : (opCells o).length = 5 := rfl
structure OpOk (w : World) (o : OpD) : Prop where
  rates : Reads w 1 o.rv o.rates.length (o.rates.map (Value.int .u64))
  len : o.rates.length ≤ 1048576
  kind : (Lit.int .i64 o.kind).wf = true
  layer : (Lit.int .i64 o.layer).wf = true
  later : (Lit.int .i64 o.later).wf = true
  own : (Lit.int .u64 o.own).wf = true
  ratesU : ∀ x ∈ o.rates, (Lit.int .u64 x).wf = true
/-- a case as it is handed in -/
structure CaseOk (w : World) (v : Value) (ops : List OpD) : Prop where
  reads : Reads w 5 v ops.length (ops.flatMap opCells)
  each : ∀ o ∈ ops, OpOk w o
  len : ops.length ≤ 1048576
theorem OpOk.below {w w' : World} {o : OpD} (h : OpOk w o) (hb : Below w.heap.size w w') : OpOk w' o := ⟨h.rates.below hb, h.len, h.kind, h.layer, h.later, h.own, h.ratesU⟩
theorem CaseOk.below {w w' : World} {v : Value} {ops : List OpD} (h : CaseOk w v ops) (hb : Below w.heap.size w w') : CaseOk w' v ops := ⟨h.reads.below hb, fun o ho => (h.each o ho).below hb, h.len⟩
/-- one op of a case -/
theorem CaseOk.at {w : World} {v : Value} {ops : List OpD} (h : CaseOk w v ops) {k : Nat} (hk : k < ops.length) : ∃ o g p c, ops[k]? = some o ∧ OpOk w o ∧ v = .slice (some ⟨g, p, none⟩) ops.length c ∧
    w.cell? ⟨g, p + k * 5, none⟩ = some (.int .i64 o.kind) ∧ w.cell? ⟨g, p + k * 5 + 1, none⟩ = some (.int .i64 o.layer) ∧ w.cell? ⟨g, p + k * 5 + 2, none⟩ = some (.int .i64 o.later) ∧
    w.cell? ⟨g, p + k * 5 + 3, none⟩ = some o.rv ∧ w.cell? ⟨g, p + k * 5 + 4, none⟩ = some (.int .u64 o.own) := by
  have hx := List.getElem?_eq_getElem hk
  obtain ⟨g, p, c, he, hc⟩ := h.reads.elem opCells_len (by omega) hx
  exact ⟨_, g, p, c, hx, h.each _ (List.getElem_mem hk), he, hc 0 _ rfl, hc 1 _ rfl, hc 2 _ rfl, hc 3 _ rfl, hc 4 _ rfl⟩

def lightN (l : List OpD) : Nat := (l.map (fun o => 1 + o.rates.length / 4)).sum
theorem lightN_take (l : List OpD) (k : Nat) (o : OpD) (h : l[k]? = some o) : lightN (l.take (k + 1)) = lightN (l.take k) + (1 + o.rates.length / 4) := by
  unfold lightN
  rw [List.take_add_one, h]
  simp
theorem lightN_le (l : List OpD) (h : ∀ o ∈ l, o.rates.length ≤ 1048576) : lightN l ≤ l.length * 1048576 := by
  induction l with
  | nil => simp [lightN]
  | cons o l ih =>
    have h1 := ih (fun x hx => h x (List.mem_cons_of_mem _ hx))
    have h2 := h o (by simp)
    simp only [lightN, List.map_cons, List.sum_cons, List.length_cons] at h1 ⊢
    rw [Nat.add_mul]
    omega
theorem len_lightN (l : List OpD) : l.length ≤ lightN l := by
  induction l with
  | nil => simp
  | cons o l ih => simp only [lightN, List.map_cons, List.sum_cons, List.length_cons] at ih ⊢; omega

set_option maxRecDepth 100000 in
set_option maxHeartbeats 1000000 in
theorem light_any (a b c : Int) (v : Value) (ops : List OpD) (w : World) (h : CaseOk w v ops) :
    Calls Try.prog 15 #[.agg #[.int .i64 a, .int .i64 b, .int .i64 c, v]] w fun e w' => e = .returned (.bool (decide ((lightN ops : Int) ≤ 200))) ∧ Below w.heap.size w w' := by
  obtain ⟨A, k0, rfl, -⟩ := h.reads.val
  have h1 := h.below ((Below.refl _ _).alloc (Nat.le_refl _) (.cells #[.int .i64 a, .int .i64 b, .int .i64 c, .slice A ops.length k0] 39))
  have hB := Blk.new w #[.int .i64 a, .int .i64 b, .int .i64 c, .slice A ops.length k0] 39
  have q1 := (Below.refl w.heap.size w).alloc (Nat.le_refl _) (.cells #[.int .i64 a, .int .i64 b, .int .i64 c, .slice A ops.length k0] 39)
  have H1 := Lib.hid h1
  have hln := h.len
  have HL : Hid (∀ k, lightN (ops.take k) ≤ ops.length * 1048576) := fun k => Nat.le_trans (lightN_le _ (fun o ho => (h.each o (List.mem_of_mem_take ho)).len)) (Nat.mul_le_mul_right _ (by simp; omega))
  have hsz : w.heap.size ≤ (w.alloc (.cells #[.int .i64 a, .int .i64 b, .int .i64 c, .slice A ops.length k0] 39)).heap.size := by simp
  clear h h1
  go_enter Try.func15, Try.ntmps15
  go_wp2_with fail
  generalize w.alloc (.cells #[.int .i64 a, .int .i64 b, .int .i64 c, .slice A ops.length k0] 39) = w1 at *
  go_loopw [3, 5, 9] (fun n _ i wr => ∃ k : Nat, k ≤ ops.length ∧ i = .int .i64 k ∧ n = .int .i64 (lightN (ops.take k)) ∧ Below w1.heap.size w1 wr) (fun _ _ i _ => ops.length - (intOf i).toNat)
  case atStart => exact ⟨0, by omega, rfl, rfl, Below.refl _ _⟩
  case round =>
    obtain ⟨k, hk, rfl, rfl, hb⟩ := hrel
    by_cases hlt : k < ops.length
    · obtain ⟨o, g, p, c', ho, hok, he, c0, c1, c2, c3, c4⟩ := (H1.out.below hb).at hlt
      cases he
      obtain ⟨A', k', hv, -⟩ := hok.rates.val
      rw [hv] at c3
      have hN := HL.out k
      have hN2 := HL.out (k + 1)
      have ht := lightN_take ops k o ho
      rw [ht] at hN2
      have HT := Lib.hid ht
      generalize lightN (ops.take k) = N at *
      have hol := hok.len
      clear ht hok ho
      go_wp2
      go_roundw
      case rel =>
        exact ⟨k + 1, by omega, by go_num, by rw [HT.out]; simp, hb.alloc hb.size _⟩
      case measure => simp [intOf]; omega
    · obtain rfl : k = ops.length := by omega
      rw [List.take_length]
      go_wp2
      go_ret
      exact ⟨rfl, bmore q1 hb hsz⟩

set_option maxRecDepth 100000 in
theorem later_any (now by_ : Int) (w : World) (h : 0 ≤ now ∧ now ≤ 1000000000000) :
    Calls Try.prog 17 #[.int .i64 now, .int .i64 by_] w fun e w' => e = .returned (.int .i64 (now + min (max by_ 0) 1048576)) ∧ w' = w := by
  rcases (by omega : by_ < 0 ∨ (0 ≤ by_ ∧ by_ ≤ 1048576) ∨ 1048576 < by_) with g | ⟨g, g'⟩ | g
  · have e : min (max by_ 0) 1048576 = 0 := by omega
    rw [e]
    clear e
    go_enter Try.func17, Try.ntmps17
    go_wp2

    go_ret
    exact ⟨by first | rfl | exact ret_int (by omega), rfl⟩
  · have e : min (max by_ 0) 1048576 = by_ := by omega
    rw [e]
    clear e
    go_enter Try.func17, Try.ntmps17
    go_wp2
    go_ret
    exact ⟨by first | rfl | exact ret_int (by omega), rfl⟩
  · have e : min (max by_ 0) 1048576 = 1048576 := by omega
    rw [e]
    clear e
    go_enter Try.func17, Try.ntmps17
    go_wp2
    go_ret
    exact ⟨by first | rfl | exact ret_int (by omega), rfl⟩
end Go.Proofs.Ytmiholjmagobhaa
