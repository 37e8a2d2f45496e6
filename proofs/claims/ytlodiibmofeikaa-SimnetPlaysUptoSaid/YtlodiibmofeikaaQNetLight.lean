/- simnet: the law's light, later. -/
import Derived.Test.YtlodiibmofeikaaQNetSame
import Derived.Lib.MinMax
namespace Go.Proofs.Ytlodiibmofeikaa
open Go.RowKit Go.Shelf
set_option linter.unusedVariables false
set_option linter.unusedSimpArgs false

structure OpN where
  kind : Int
  r : Int
  level : Int
  later : Int
  v : Value
  text : List Int
def opNC (o : OpN) : List Value := [.int .i64 o.kind, .int .i64 o.r, .int .i64 o.level, .int .i64 o.later, o.v]
theorem opNC_len (o : OpN) : (opNC o).length = 5 := rfl
structure OpNOk (w : World) (o : OpN) : Prop where
  text : Reads w 1 o.v o.text.length (u8s o.text)
  bts : BtsI o.text
  len : o.text.length ≤ 1048576
structure OpsOk (w : World) (v : Value) (ops : List OpN) : Prop where
  reads : Reads w 5 v ops.length (ops.flatMap opNC)
  each : ∀ o ∈ ops, OpNOk w o
  len : ops.length ≤ 1048576
theorem OpNOk.below {w w' : World} {o : OpN} (h : OpNOk w o) (hb : Below w.heap.size w w') : OpNOk w' o := ⟨h.text.below hb, h.bts, h.len⟩
theorem OpsOk.below {w w' : World} {v : Value} {ops : List OpN} (h : OpsOk w v ops) (hb : Below w.heap.size w w') : OpsOk w' v ops := ⟨h.reads.below hb, fun o ho => (h.each o ho).below hb, h.len⟩
theorem OpsOk.at {w : World} {v : Value} {ops : List OpN} (h : OpsOk w v ops) {k : Nat} (hk : k < ops.length) : ∃ o g p c, ops[k]? = some o ∧ OpNOk w o ∧ v = .slice (some ⟨g, p, none⟩) ops.length c ∧
    w.cell? ⟨g, p + k * 5, none⟩ = some (.int .i64 o.kind) ∧ w.cell? ⟨g, p + k * 5 + 1, none⟩ = some (.int .i64 o.r) ∧ w.cell? ⟨g, p + k * 5 + 2, none⟩ = some (.int .i64 o.level) ∧ w.cell? ⟨g, p + k * 5 + 3, none⟩ = some (.int .i64 o.later) ∧ w.cell? ⟨g, p + k * 5 + 4, none⟩ = some o.v := by
  have hx := List.getElem?_eq_getElem hk
  obtain ⟨g, p, c, he, hc⟩ := h.reads.elem opNC_len (by omega) hx
  exact ⟨_, g, p, c, hx, h.each _ (List.getElem_mem hk), he, hc 0 _ rfl, hc 1 _ rfl, hc 2 _ rfl, hc 3 _ rfl, hc 4 _ rfl⟩
def lightN (l : List OpN) : Nat := (l.map (fun o => 1 + o.text.length / 30)).sum
theorem lightN_take (l : List OpN) (k : Nat) (o : OpN) (h : l[k]? = some o) : lightN (l.take (k + 1)) = lightN (l.take k) + (1 + o.text.length / 30) := by
  unfold lightN
  rw [List.take_add_one, h]
  simp
theorem lightN_le (l : List OpN) (h : ∀ o ∈ l, o.text.length ≤ 1048576) : lightN l ≤ l.length * 1048576 := by
  induction l with
  | nil => simp [lightN]
  | cons o l ih =>
    have h1 := ih (fun x hx => h x (List.mem_cons_of_mem _ hx))
    have h2 := h o (by simp)
    simp only [lightN, List.map_cons, List.sum_cons, List.length_cons] at h1 ⊢
    rw [Nat.add_mul]
    omega
theorem len_lightN (l : List OpN) : l.length ≤ lightN l := by
  induction l with
  | nil => simp
  | cons o l ih => simp only [lightN, List.map_cons, List.sum_cons, List.length_cons] at ih ⊢; omega
def lightB (ops : List OpN) (f : Nat) (rc : Int) : Bool := decide ((lightN ops : Int) ≤ 70) && (decide ((f : Int) ≤ 200) && decide (rc ≤ 8))
def casC (rc delay room j lv : Int) (fv v : Value) : Array Value := #[.int .i64 rc, .int .i64 delay, .int .i64 room, .int .i64 j, .int .i64 lv, fv, v]
theorem blk7' {w : World} {b : Nat} {v0 v1 v2 v3 v4 v5 v6 : Value} {T : TypeId} (h : Blk w b #[v0, v1, v2, v3, v4, v5, v6] T) : w.cell? ⟨b, 0, none⟩ = some v0 ∧ w.cell? ⟨b, 1, none⟩ = some v1 ∧ w.cell? ⟨b, 2, none⟩ = some v2 ∧ w.cell? ⟨b, 3, none⟩ = some v3 ∧ w.cell? ⟨b, 4, none⟩ = some v4 ∧ w.cell? ⟨b, 5, none⟩ = some v5 ∧ w.cell? ⟨b, 6, none⟩ = some v6 :=
  ⟨h.cell 0 rfl, h.cell 1 rfl, h.cell 2 rfl, h.cell 3 rfl, h.cell 4 rfl, h.cell 5 rfl, h.cell 6 rfl⟩
set_option maxRecDepth 100000 in
set_option maxHeartbeats 2000000 in
theorem light_any (rc delay room j lv : Int) (fA : Option Addr) (fn fc : Nat) (v : Value) (ops : List OpN) (w : World) (h : OpsOk w v ops) :
    Calls Try.prog 17 #[.agg (casC rc delay room j lv (.slice fA fn fc) v)] w fun e w' => e = .returned (.bool (lightB ops fn rc)) ∧ Below w.heap.size w w' := by
  obtain ⟨A, k0, rfl, -⟩ := h.reads.val
  have hln := h.len
  have HL : Hid (∀ k, lightN (ops.take k) ≤ ops.length * 1048576) := fun k => Nat.le_trans (lightN_le _ (fun o ho => (h.each o (List.mem_of_mem_take ho)).len)) (Nat.mul_le_mul_right _ (by simp; omega))
  have HC := Lib.hid (Blk.new w (casC rc delay room j lv (.slice fA fn fc) (.slice A ops.length k0)) 53)
  have HB1 := Lib.hid ((Below.refl _ w).alloc (Nat.le_refl _) (.cells (casC rc delay room j lv (.slice fA fn fc) (.slice A ops.length k0)) 53))
  have H1 := Lib.hid (h.below HB1.out)
  unfold casC at *
  obtain ⟨x0, x1, x2, x3, x4, x5, x6⟩ := blk7' HC.out
  clear h
  go_enter Try.func17, Try.ntmps17
  go_wp2_with fail
  generalize w.alloc (.cells #[.int .i64 rc, .int .i64 delay, .int .i64 room, .int .i64 j, .int .i64 lv, .slice fA fn fc, .slice A ops.length k0] 53) = w1 at *
  clear x0 x1 x2 x3 x4 x5 x6
  go_loopw [3, 5, 9] (fun n _ i wr => ∃ k : Nat, k ≤ ops.length ∧ i = .int .i64 k ∧ n = .int .i64 (lightN (ops.take k)) ∧ Hid (Below w1.heap.size w1 wr)) (fun _ _ i _ => ops.length - (intOf i).toNat)
  case atStart => exact ⟨0, by omega, rfl, rfl, Below.refl _ _⟩
  case round =>
    obtain ⟨k, hk, rfl, rfl, HB⟩ := hrel
    by_cases hlt : k < ops.length
    · obtain ⟨o, g, p, c', ho, hook, he, d0, d1, d2, d3, d4⟩ := (H1.out.below HB.out).at hlt
      cases he
      obtain ⟨A', k', hv, -⟩ := hook.text.val
      rw [hv] at d4
      have hN := HL.out k
      have hN2 := HL.out (k + 1)
      have ht := lightN_take ops k o ho
      rw [ht] at hN2
      have HT := Lib.hid ht
      generalize lightN (ops.take k) = N at *
      have hol := hook.len
      have HB2 : Hid (Below w1.heap.size w1 (wr.alloc (.cells #[.int .i64 o.kind, .int .i64 o.r, .int .i64 o.level, .int .i64 o.later, .slice A' o.text.length k'] 61))) := HB.out.alloc HB.out.size _
      clear ht hook ho hv
      go_wp2
      go_roundw
      case rel => exact ⟨k + 1, by omega, by go_num, by rw [HT.out]; simp, HB2⟩
      case measure => simp [intOf]; omega
    · obtain rfl : k = ops.length := by omega
      rw [List.take_length]
      have HBE := Lib.hid (bmore HB1.out HB.out HB1.out.size)
      obtain ⟨x0, x1, x2, x3, x4, x5, x6⟩ := blk7' (HC.out.below HB.out)
      by_cases g1 : (lightN ops : Int) ≤ 70
      · by_cases g2 : (fn : Int) ≤ 200
        · by_cases g3 : rc ≤ 8
          · go_wp2
            go_ret
            exact ⟨by first | (simp [lightB, g1, g2, g3]; done) | (simp [lightB]; omega), HBE.out⟩
          · go_wp2
            go_ret
            exact ⟨by first | (simp [lightB, g1, g2, g3]; done) | (simp [lightB]; omega), HBE.out⟩
        · go_wp2
          go_ret
          exact ⟨by simp [lightB]; omega, HBE.out⟩
      · go_wp2
        go_ret
        exact ⟨by simp [lightB]; omega, HBE.out⟩
def laterI (now by' : Int) : Int := now + min (max by' 0) 100
theorem laterI_in (now by' : Int) : now ≤ laterI now by' ∧ laterI now by' ≤ now + 100 := by unfold laterI; omega
theorem later_any (now by' : Int) (w : World) (h : 0 ≤ now ∧ now ≤ 1099511627776) :
    Calls Try.prog 18 #[.int .i64 now, .int .i64 by'] w fun e w' => e = .returned (.int .i64 (laterI now by')) ∧ w = w' := by
  unfold laterI
  go_enter Try.func18, Try.ntmps18
  go_wp2
  go_ret
  exact ⟨by first | rfl | (go_num) | omega, rfl⟩
end Go.Proofs.Ytlodiibmofeikaa
