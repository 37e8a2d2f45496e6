/- pipe: the law's step, whatever the call; small. -/
import Derived.Test.YtijmmmgmpfhgoaaPipeStep1
namespace Go.Proofs.Ytijmmmgmpfhgoaa
open Go.RowKit Go.Shelf
set_option linter.unusedVariables false
set_option linter.unusedSimpArgs false

theorem step_any {R : Nat → Prop} {G : Nat → Prop} (b : Nat) (v : Value) (l : List Msg) (room kd at' N : Int) (xv : Value) (X : List RM) (tA : Option Addr) (tn tc : Nat) (bs : List Int) (w : World) (h : SIn R w G b v l room xv X) (hx : Reads w 1 (.slice tA tn tc) tn (u8s bs)) (hbs : bs.length = tn) (htn : tn ≤ 1048576) :
    Calls Try.prog 13 #[.pointer (some ⟨b, 0, none⟩), xv, .int .i64 room, .agg #[.int .i64 kd, .int .i64 at', .int .i64 N, .slice tA tn tc]] w fun e w' => ∃ xv' X', e = .returned (.tuple #[xv', .bool true]) ∧ StP R w w' G b room xv' X' := by
  by_cases k1 : kd = 1
  · subst k1
    by_cases he : putE l room at' tn = 0
    · exact step_1y b v l room at' N xv X tA tn tc bs w h hx hbs he
    · exact step_1n b v l room at' N xv X tA tn tc bs w h hx hbs htn he
  by_cases k2 : kd = 2
  · subst k2; exact step_2 b v l room at' N xv X tA tn tc w h
  by_cases k3 : kd = 3
  · subst k3; exact step_3 b v l room at' N xv X tA tn tc w h
  · exact step_0 b v l room kd at' N xv X tA tn tc w h (by simpa using k1) (by simpa using k2) (by simpa using k3)
structure OpD where
  kind : Int
  at' : Int
  n : Int
  v : Value
  text : List Int
def opCells (o : OpD) : List Value := [.int .i64 o.kind, .int .i64 o.at', .int .i64 o.n, o.v]
theorem opCells_len (o : OpD) : (opCells o).length = 4 := rfl
structure OpOk (w : World) (o : OpD) : Prop where
  text : Reads w 1 o.v o.text.length (o.text.map (Value.int .u8))
  len : o.text.length ≤ 1048576
structure CaseOk (w : World) (v : Value) (ops : List OpD) : Prop where
  reads : Reads w 4 v ops.length (ops.flatMap opCells)
  each : ∀ o ∈ ops, OpOk w o
  len : ops.length ≤ 1048576
theorem OpOk.below {w w' : World} {o : OpD} (h : OpOk w o) (hb : Below w.heap.size w w') : OpOk w' o := ⟨h.text.below hb, h.len⟩
theorem CaseOk.below {w w' : World} {v : Value} {ops : List OpD} (h : CaseOk w v ops) (hb : Below w.heap.size w w') : CaseOk w' v ops := ⟨h.reads.below hb, fun o ho => (h.each o ho).below hb, h.len⟩
theorem CaseOk.at {w : World} {v : Value} {ops : List OpD} (h : CaseOk w v ops) {k : Nat} (hk : k < ops.length) : ∃ o g p c, ops[k]? = some o ∧ OpOk w o ∧ v = .slice (some ⟨g, p, none⟩) ops.length c ∧
    w.cell? ⟨g, p + k * 4, none⟩ = some (.int .i64 o.kind) ∧ w.cell? ⟨g, p + k * 4 + 1, none⟩ = some (.int .i64 o.at') ∧ w.cell? ⟨g, p + k * 4 + 2, none⟩ = some (.int .i64 o.n) ∧ w.cell? ⟨g, p + k * 4 + 3, none⟩ = some o.v := by
  have hx := List.getElem?_eq_getElem hk
  obtain ⟨g, p, c, he, hc⟩ := h.reads.elem opCells_len (by omega) hx
  exact ⟨_, g, p, c, hx, h.each _ (List.getElem_mem hk), he, hc 0 _ rfl, hc 1 _ rfl, hc 2 _ rfl, hc 3 _ rfl⟩
def lightN (l : List OpD) : Nat := (l.map (fun o => 1 + o.text.length / 20)).sum
theorem lightN_take (l : List OpD) (k : Nat) (o : OpD) (h : l[k]? = some o) : lightN (l.take (k + 1)) = lightN (l.take k) + (1 + o.text.length / 20) := by
  unfold lightN
  rw [List.take_add_one, h]
  simp
theorem lightN_le (l : List OpD) (h : ∀ o ∈ l, o.text.length ≤ 1048576) : lightN l ≤ l.length * 1048576 := by
  induction l with
  | nil => simp [lightN]
  | cons o l ih =>
    have h1 := ih (fun x hx => h x (List.mem_cons_of_mem _ hx))
    have h2 := h o (by simp)
    simp only [lightN, List.map_cons, List.sum_cons, List.length_cons] at h1 ⊢
    rw [Nat.add_mul]
    omega
theorem len_lightN (l : List OpD) : l.length ≤ lightN l := by
  induction l with
  | nil => simp
  | cons o l ih => simp only [lightN, List.map_cons, List.sum_cons, List.length_cons] at ih ⊢; omega
set_option maxRecDepth 100000 in
set_option maxHeartbeats 1000000 in
theorem small_any (v : Value) (ops : List OpD) (w : World) (h : CaseOk w v ops) :
    Calls Try.prog 12 #[v] w fun e w' => e = .returned (.bool (decide ((lightN ops : Int) ≤ 120))) ∧ Below w.heap.size w w' := by
  obtain ⟨A, k0, rfl, -⟩ := h.reads.val
  have H1 := Lib.hid h
  have hln := h.len
  have HL : Hid (∀ k, lightN (ops.take k) ≤ ops.length * 1048576) := fun k => Nat.le_trans (lightN_le _ (fun o ho => (h.each o (List.mem_of_mem_take ho)).len)) (Nat.mul_le_mul_right _ (by simp; omega))
  clear h
  go_enter Try.func12, Try.ntmps12
  go_wp2_with fail
  go_loopw [3, 5, 8] (fun n _ i wr => ∃ k : Nat, k ≤ ops.length ∧ i = .int .i64 k ∧ n = .int .i64 (lightN (ops.take k)) ∧ Hid (Below w.heap.size w wr)) (fun _ _ i _ => ops.length - (intOf i).toNat)
  case atStart => exact ⟨0, by omega, rfl, rfl, Below.refl _ _⟩
  case round =>
    obtain ⟨k, hk, rfl, rfl, HB⟩ := hrel
    by_cases hlt : k < ops.length
    · obtain ⟨o, g, p, c', ho, hook, he, d0, d1, d2, d3⟩ := (H1.out.below HB.out).at hlt
      cases he
      obtain ⟨A', k', hv, -⟩ := hook.text.val
      rw [hv] at d3
      have hN := HL.out k
      have hN2 := HL.out (k + 1)
      have ht := lightN_take ops k o ho
      rw [ht] at hN2
      have HT := Lib.hid ht
      generalize lightN (ops.take k) = N at *
      have hol := hook.len
      have HB2 : Hid (Below w.heap.size w (wr.alloc (.cells #[.int .i64 o.kind, .int .i64 o.at', .int .i64 o.n, .slice A' o.text.length k'] 35))) := HB.out.alloc HB.out.size _
      clear ht hook ho hv
      go_wp2
      go_roundw
      case rel => exact ⟨k + 1, by omega, by go_num, by rw [HT.out]; simp, HB2⟩
      case measure => simp [intOf]; omega
    · obtain rfl : k = ops.length := by omega
      rw [List.take_length]
      go_wp2
      go_ret
      exact ⟨rfl, HB.out⟩
end Go.Proofs.Ytijmmmgmpfhgoaa
