/- gaps: the law's helpers: right, light. -/
import Derived.Test.YtkgngmmlfoiajaaGapsRef3
import Derived.Test.YtkgngmmlfoiajaaBlk
namespace Go.Proofs.Ytkgngmmlfoiajaa
open Go.RowKit
set_option linter.unusedVariables false
set_option linter.unusedSimpArgs false

structure OpD where
  kind : Int
  a : Int
  b : Int
  now : Int
  lv : Value
  l : List (Int × Int)
def opCells (o : OpD) : List Value := [.int .i64 o.kind, .int .i64 o.a, .int .i64 o.b, .int .i64 o.now, o.lv]
theorem opCells_len (o : OpD) : (opCells o).length = 5 := rfl
structure OpIn (w : World) (o : OpD) : Prop where
  rd : Reads w 2 o.lv o.l.length (o.l.flatMap pairCells)
  le : o.l.length ≤ 1048576
structure OpsIn (w : World) (v : Value) (ops : List OpD) : Prop where
  rd : Reads w 5 v ops.length (ops.flatMap opCells)
  all : ∀ o ∈ ops, OpIn w o
  le : ops.length ≤ 1048576
theorem OpIn.below {w w' : World} {o : OpD} (h : OpIn w o) (hb : Below w.heap.size w w') : OpIn w' o := ⟨h.rd.below hb, h.le⟩
theorem OpsIn.below {w w' : World} {v : Value} {ops : List OpD} (h : OpsIn w v ops) (hb : Below w.heap.size w w') : OpsIn w' v ops := ⟨h.rd.below hb, fun o ho => (h.all o ho).below hb, h.le⟩
theorem OpsIn.at {w : World} {v : Value} {x : List OpD} (h : OpsIn w v x) {k : Nat} {a : OpD} (hk : x[k]? = some a) : ∃ g p c, v = .slice (some ⟨g, p, none⟩) x.length c ∧ w.cell? ⟨g, p + k * 5, none⟩ = some (.int .i64 a.kind) ∧ w.cell? ⟨g, p + k * 5 + 1, none⟩ = some (.int .i64 a.a) ∧ w.cell? ⟨g, p + k * 5 + 2, none⟩ = some (.int .i64 a.b) ∧ w.cell? ⟨g, p + k * 5 + 3, none⟩ = some (.int .i64 a.now) ∧ w.cell? ⟨g, p + k * 5 + 4, none⟩ = some a.lv := by
  obtain ⟨g, p, c, he, hc⟩ := Reads.elem h.rd opCells_len (by omega) hk
  exact ⟨g, p, c, he, hc 0 _ rfl, hc 1 _ rfl, hc 2 _ rfl, hc 3 _ rfl, hc 4 _ rfl⟩
def RightZ (f lg : Int) : Prop := 1 ≤ f ∧ f ≤ 65536 ∧ f ≤ lg ∧ lg ≤ 1048576
theorem right_no (f lg : Int) (v : Value) (w : World) (h : ¬ RightZ f lg) :
    Calls Try.prog 12 #[.agg #[.int .i64 f, .int .i64 lg, v]] w fun e w' => e = .returned (.bool false) ∧ Below w.heap.size w w' := by
  unfold RightZ at h
  obtain ⟨x0, x1, x2⟩ := blk3 (Blk.new w #[.int .i64 f, .int .i64 lg, v] 40)
  have HBA := Lib.hid ((Below.refl w.heap.size w).alloc (Nat.le_refl _) (.cells #[.int .i64 f, .int .i64 lg, v] 40))
  rcases (by omega : f < 1 ∨ (1 ≤ f ∧ 65536 < f) ∨ (1 ≤ f ∧ f ≤ 65536 ∧ lg < f) ∨ (1 ≤ f ∧ f ≤ 65536 ∧ f ≤ lg ∧ 1048576 < lg)) with g1 | ⟨g1, g2⟩ | ⟨g1, g2, g3⟩ | ⟨g1, g2, g3, g4⟩
  all_goals
    clear h
    go_enter Try.func12, Try.ntmps12
    go_wp2
    go_ret
    exact ⟨by first | rfl | (simp; done) | (simp; omega), HBA.out⟩
theorem right_yes (f lg : Int) (v : Value) (w : World) (h : RightZ f lg) :
    Calls Try.prog 12 #[.agg #[.int .i64 f, .int .i64 lg, v]] w fun e w' => e = .returned (.bool true) ∧ Below w.heap.size w w' := by
  obtain ⟨g1, g2, g3, g4⟩ := h
  obtain ⟨x0, x1, x2⟩ := blk3 (Blk.new w #[.int .i64 f, .int .i64 lg, v] 40)
  have HBA := Lib.hid ((Below.refl w.heap.size w).alloc (Nat.le_refl _) (.cells #[.int .i64 f, .int .i64 lg, v] 40))
  go_enter Try.func12, Try.ntmps12
  go_wp2
  go_ret
  exact ⟨by first | rfl | (simp; done) | (simp; omega), HBA.out⟩

def OpOk (o : OpD) : Prop := o.kind = 1 → 0 ≤ o.a → o.b ≤ 16384 → o.a ≤ o.b → o.b - o.a ≤ 40
def LightOk (ops : List OpD) : Prop := ops.length ≤ 60 ∧ ∀ o ∈ ops, OpOk o
def LightR (ops : List OpD) (w w' : World) (e : Ending) : Prop := ∃ bo, e = .returned (.bool bo) ∧ (bo = true → LightOk ops) ∧ Below w.heap.size w w'
set_option maxRecDepth 100000 in
set_option maxHeartbeats 4000000 in
theorem light_any (f lg : Int) (A : Option Addr) (n c : Nat) (ops : List OpD) (w : World) (h : OpsIn w (.slice A n c) ops) (hl : n = ops.length) (hn : n ≤ 1048576) :
    Calls Try.prog 13 #[.agg #[.int .i64 f, .int .i64 lg, .slice A n c]] w fun e w' => LightR ops w w' e := by
  have HX := Lib.hid h
  have HL := Lib.hid hl
  obtain ⟨x0, x1, x2⟩ := blk3 (Blk.new w #[.int .i64 f, .int .i64 lg, .slice A n c] 40)
  have hba := ((Below.refl w.heap.size w).alloc (Nat.le_refl _) (.cells #[.int .i64 f, .int .i64 lg, .slice A n c] 40))
  have HBA := Lib.hid hba
  clear h hl hba
  go_enter Try.func13, Try.ntmps13
  go_wp2_with fail
  clear x0 x1 x2
  go_loopw [3, 5, 9] (fun q _ i wr => ∃ (k : Nat) (s : Int), k ≤ n ∧ k ≤ s ∧ s ≤ 262145 * k ∧ i = .int .i64 k ∧ q = .int .i64 s ∧ Hid (∀ o ∈ ops.take k, OpOk o) ∧ Below w.heap.size w wr) (fun _ _ i _ => n - (intOf i).toNat)
  case atStart => exact ⟨0, 0, by omega, by omega, by omega, rfl, rfl, Lib.hid (by intro o ho; simp at ho), HBA.out⟩
  case round =>
    obtain ⟨k, s, hk, hks, hsk, rfl, rfl, HT, hb⟩ := hrel
    have hs := hb.size
    by_cases hlt : k < n
    · obtain ⟨o, ho⟩ : ∃ o, ops[k]? = some o := ⟨_, List.getElem?_eq_getElem (by rw [← HL.out]; exact hlt)⟩
      obtain ⟨g, p, c0, he, o0, o1, o2, o3, o4⟩ := (HX.out.below hb).at ho
      rw [← HL.out] at he
      cases he
      have hin := HX.out.all o (List.mem_of_getElem? ho)
      obtain ⟨pA, pc, hlv, -⟩ := hin.rd.val
      have hle := hin.le
      obtain ⟨pn, hpn⟩ : ∃ pn, pn = o.l.length := ⟨_, rfl⟩
      rw [hlv, ← hpn] at o4
      rw [← hpn] at hle
      have i1 : (0 : Int) ≤ (k : Int) := by omega
      have i2 : (k : Int) < (n : Int) := by omega
      have i3 : (0 : Int) ≤ (pn : Int) := by omega
      have i4 : (pn : Int) ≤ 1048576 := by omega
      have hb2 : ∀ ob, Below w.heap.size w (wr.alloc ob) := fun ob => hb.alloc hs ob
      have HB2 := Lib.hid hb2
      have HT2 : Hid (OpOk o → ∀ o' ∈ ops.take (k + 1), OpOk o') := by
        intro hok o' ho'
        rw [List.take_add_one, ho, List.mem_append] at ho'
        rcases ho' with h | h
        · exact HT.out o' h
        · have : o' = o := by simpa using h
          rw [this]; exact hok
      clear ho hin hlv hpn hb2
      have key : ∀ P : Prop, P → P := fun _ h => h
      rcases (by
        by_cases e1 : o.kind = 1
        · by_cases e2 : o.a < 0
          · exact .inr (.inl ⟨e1, e2⟩)
          by_cases e3 : 16384 < o.b
          · exact .inr (.inr (.inl ⟨e1, by omega, e3⟩))
          by_cases e4 : o.a ≤ o.b
          · exact .inr (.inr (.inr (.inl ⟨e1, by omega, by omega, e4⟩)))
          · exact .inr (.inr (.inr (.inr ⟨e1, by omega, by omega, by omega⟩)))
        · exact .inl e1 : o.kind ≠ 1 ∨ (o.kind = 1 ∧ o.a < 0) ∨ (o.kind = 1 ∧ 0 ≤ o.a ∧ 16384 < o.b) ∨ (o.kind = 1 ∧ 0 ≤ o.a ∧ o.b ≤ 16384 ∧ o.a ≤ o.b) ∨ (o.kind = 1 ∧ 0 ≤ o.a ∧ o.b ≤ 16384 ∧ o.b < o.a)) with e | ⟨e, e2⟩ | ⟨e, e2, e3⟩ | ⟨e, e2, e3, e4⟩ | ⟨e, e2, e3, e4⟩
      · have t1 : (o.kind == 1) = false := by rw [beq_eq_false_iff_ne]; exact e
        have HOK := Lib.hid (HT2.out (fun h => absurd h e))
        clear e
        go_wp2
        go_roundw
        case rel => exact ⟨k + 1, s + (1 + (pn : Int) / 4), by omega, by omega, by omega, by go_num, rfl, HOK, HB2.out _⟩
        case measure => simp [intOf]; omega
      · rw [e] at o0
        have HOK := Lib.hid (HT2.out (fun _ h => absurd h (by omega)))
        clear e
        go_wp2
        go_roundw
        case rel => exact ⟨k + 1, s + (1 + (pn : Int) / 4), by omega, by omega, by omega, by go_num, rfl, HOK, HB2.out _⟩
        case measure => simp [intOf]; omega
      · rw [e] at o0
        have HOK := Lib.hid (HT2.out (fun _ _ h => absurd h (by omega)))
        clear e
        go_wp2
        go_roundw
        case rel => exact ⟨k + 1, s + (1 + (pn : Int) / 4), by omega, by omega, by omega, by go_num, rfl, HOK, HB2.out _⟩
        case measure => simp [intOf]; omega
      · rw [e] at o0
        by_cases e5 : 40 < o.b - o.a
        · clear e
          go_wp2
          go_ret
          exact ⟨false, rfl, (fun h => by cases h), HB2.out _⟩
        · have HOK := Lib.hid (HT2.out (fun _ _ _ _ => by omega))
          have e6 : o.b - o.a ≤ 40 := by omega
          clear e e5
          go_wp2
          go_roundw
          case rel => exact ⟨k + 1, s + (1 + (pn : Int) / 4), by omega, by omega, by omega, by go_num, rfl, HOK, HB2.out _⟩
          case measure => simp [intOf]; omega
      · rw [e] at o0
        have HOK := Lib.hid (HT2.out (fun _ _ _ h => absurd h (by omega)))
        clear e
        go_wp2
        · go_ret
          exact ⟨false, rfl, (fun h => by cases h), HB2.out _⟩
        · go_roundw
          case rel => exact ⟨k + 1, s + (1 + (pn : Int) / 4), by omega, by omega, by omega, by go_num, rfl, HOK, HB2.out _⟩
          case measure => simp [intOf]; omega
    · obtain rfl : k = n := by omega
      have ht := HT.out
      rw [List.take_of_length_le (by rw [← HL.out]; omega)] at ht
      have HTT := Lib.hid ht
      clear ht
      go_wp2
      go_ret
      refine ⟨decide (s ≤ 60), rfl, fun h => ⟨?_, HTT.out⟩, hb⟩
      have := of_decide_eq_true h
      rw [← HL.out]; omega
end Go.Proofs.Ytkgngmmlfoiajaa
