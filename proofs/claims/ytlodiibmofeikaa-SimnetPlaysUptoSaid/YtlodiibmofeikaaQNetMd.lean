/- simnet: the law's model, in memory. -/
import Derived.Test.YtlodiibmofeikaaQNetRefGive
import Derived.Test.YtlodiibmofeikaaQGroupRLevel
import Derived.Laws.Rows
import Derived.Laws.Tables
import Derived.Deep.MidRow
namespace Go.Proofs.Ytlodiibmofeikaa
open Go.RowKit
set_option linter.unusedVariables false
set_option linter.unusedSimpArgs false

structure MD where
  rc : Int
  delay : Int
  room : Int
  j : Int
  lv : Int
  av : Value
  lsv : Value
  fv : Value
  used : Nat
  s : StN
def modC (m : MD) : Array Value := #[.int .i64 m.rc, .int .i64 m.delay, .int .i64 m.room, .int .i64 m.j, .int .i64 m.lv, m.av, m.lsv, m.fv, .int .i64 m.used, .int .i64 m.s.sent, .int .i64 m.s.lost, .int .i64 m.s.dropped, .int .i64 m.s.doubled, .int .i64 m.s.late, .int .i64 m.s.turned]
/-- what the model tells of, in blocks of G -/
structure MdAt (w : World) (G : Nat → Prop) (m : MD) (asks : List AskD) (vs : List Value) (Xs : List (List RM)) (F : List FD) : Prop where
  asks : w.ownsRow 0 87 3 m.av asks.length (asks.flatMap askCells)
  lists : w.ownsRow 0 92 1 m.lsv vs.length vs
  len : vs.length = Xs.length
  each : ∀ (i : Nat) (v : Value) (X : List RM), vs[i]? = some v → Xs[i]? = some X → ROwnB w v X ∧ (∀ g, v.ownBlock = some g → G g)
  fates : Reads w 2 m.fv F.length (F.flatMap fateCells)
  fg : ∀ g, m.fv.ownBlock = some g → 0 < F.length → G g
  ga : ∀ g, m.av.ownBlock = some g → G g
  gl : ∀ g, m.lsv.ownBlock = some g → G g
theorem MdAt.keep {S : Nat → Prop} {w w' : World} {G : Nat → Prop} {m : MD} {asks : List AskD} {vs : List Value} {Xs : List (List RM)} {F : List FD} (h : MdAt w G m asks vs Xs F) (hk : Keep S w w') (hs : ∀ q, G q → ¬ S q) : MdAt w' G m asks vs Xs F :=
  ⟨ownsRow_keep h.asks hk (fun g hg => hs g (h.ga g hg)), ownsRow_keep h.lists hk (fun g hg => hs g (h.gl g hg)), h.len, fun i v X hv hX => ⟨ownsRow_keep (h.each i v X hv hX).1 hk (fun g hg => hs g ((h.each i v X hv hX).2 g hg)), (h.each i v X hv hX).2⟩,
    h.fates.keep hk (fun g hg hp => hs g (h.fg g hg hp)), h.fg, h.ga, h.gl⟩
theorem MdAt.below {w w' : World} {G : Nat → Prop} {m : MD} {asks : List AskD} {vs : List Value} {Xs : List (List RM)} {F : List FD} (h : MdAt w G m asks vs Xs F) (hb : Below w.heap.size w w') : MdAt w' G m asks vs Xs F := h.keep (Keep.none hb) (fun _ _ => id)
theorem MdAt.mono {w : World} {G G' : Nat → Prop} {m : MD} {asks : List AskD} {vs : List Value} {Xs : List (List RM)} {F : List FD} (h : MdAt w G m asks vs Xs F) (hg : ∀ q, G q → q < w.heap.size → G' q) : MdAt w G' m asks vs Xs F :=
  ⟨h.asks, h.lists, h.len, fun i v X hv hX => ⟨(h.each i v X hv hX).1, fun g hg' => hg g ((h.each i v X hv hX).2 g hg') ((h.each i v X hv hX).1.lt g hg').2⟩, h.fates, fun g hg' hp => hg g (h.fg g hg' hp) (h.fates.lt g hg' hp), fun g hg' => hg g (h.ga g hg') (h.asks.lt g hg').2, fun g hg' => hg g (h.gl g hg') (h.lists.lt g hg').2⟩
/-- the same lists, in a row of its own; one of them another -/
theorem MdAt.put {w : World} {G : Nat → Prop} {m : MD} {asks : List AskD} {vs : List Value} {Xs : List (List RM)} {F : List FD} (h : MdAt w G m asks vs Xs F) {k : Nat} {v' : Value} {X' : List RM} {lsv' : Value} (hl : w.ownsRow 0 92 1 lsv' vs.length (vs.set k v'))
    (hx : ROwnB w v' X') (hv : ∀ g, v'.ownBlock = some g → G g) (hg : ∀ g, lsv'.ownBlock = some g → G g) (u : Nat) (s : StN) : MdAt w G { m with lsv := lsv', used := u, s := s } asks (vs.set k v') (Xs.set k X') F := by
  refine ⟨h.asks, by rw [List.length_set]; exact hl, by rw [List.length_set, List.length_set]; exact h.len, fun i v X hi hX => ?_, h.fates, h.fg, h.ga, hg⟩
  by_cases e : k = i
  · subst e
    have hk : k < vs.length := by have := (List.getElem?_eq_some_iff.1 hi).1; simpa using this
    rw [List.getElem?_set_self hk] at hi
    rw [List.getElem?_set_self (by rw [← h.len]; exact hk)] at hX
    cases hi
    cases hX
    exact ⟨hx, hv⟩
  · rw [List.getElem?_set_ne e] at hi hX
    exact h.each i v X hi hX
theorem MdAt.one {w : World} {G : Nat → Prop} {m : MD} {asks : List AskD} {vs : List Value} {Xs : List (List RM)} {F : List FD} (h : MdAt w G m asks vs Xs F) : ∀ u ∈ vs, u.oneCell' = true := by
  intro u hu
  obtain ⟨i, hi, he⟩ := List.mem_iff_getElem.1 hu
  obtain ⟨X, hX⟩ : ∃ X, Xs[i]? = some X := ⟨_, List.getElem?_eq_getElem (by rw [← h.len]; exact hi)⟩
  obtain ⟨A, c, hv⟩ := ownsRow_slice (h.each i u X (by rw [List.getElem?_eq_getElem hi, he]) hX).1
  rw [hv]
  rfl
def md0 : MD := ⟨0, 0, 0, 0, 0, .slice none 0 0, .slice none 0 0, .slice none 0 0, 0, stN0⟩
theorem modC_size (m : MD) : (modC m).size = 15 := rfl
theorem info_md : (Try.prog.info? 59).map (fun i => (i.zero, i.size)) = some (some (.agg (modC md0)), 15) := by kernel_rfl
theorem info_md1 : (Try.prog.info? 59).map (·.size) = some 15 := by
  have h := info_md
  cases e : Try.prog.info? 59 with
  | none => rw [e] at h; cases h
  | some i => rw [e] at h; simp only [Option.map_some, Option.some.injEq, Prod.mk.injEq] at h; simp [h.2]
theorem info_md2 : (Try.prog.info? 59).bind (·.zero) = some (.agg (modC md0)) := by
  have h := info_md
  cases e : Try.prog.info? 59 with
  | none => rw [e] at h; cases h
  | some i => rw [e] at h; simp only [Option.map_some, Option.some.injEq, Prod.mk.injEq] at h; simp [h.1]
def modOne (m : MD) : Prop := m.av.oneCell' = true ∧ m.lsv.oneCell' = true ∧ m.fv.oneCell' = true
theorem modC_one {m : MD} (h : modOne m) : (modC m).all (·.oneCell') = true := by
  obtain ⟨h1, h2, h3⟩ := h
  have hi : ∀ (k : IntKind) (n : Int), (Value.int k n).oneCell' = true := fun _ _ => rfl
  unfold modC
  simp [h1, h2, h3, hi]
theorem MdAt.modOne {w : World} {G : Nat → Prop} {m : MD} {asks : List AskD} {vs : List Value} {Xs : List (List RM)} {F : List FD} (h : MdAt w G m asks vs Xs F) : modOne m := by
  obtain ⟨A, c, h1⟩ := ownsRow_slice h.asks
  obtain ⟨A2, c2, h2⟩ := ownsRow_slice h.lists
  obtain ⟨A3, c3, h3, -⟩ := h.fates.val
  exact ⟨by rw [h1]; rfl, by rw [h2]; rfl, by rw [h3]; rfl⟩
section
variable {ops : Array Oper} {rest : List Oper} {op : Oper} {a : Act} {w : World} {Q : Exit → Act → World → Prop}
/-- the whole model out of its box -/
theorem wpList_loadM (hgd : op.guard = none) (x : Operand) (ho : op.op = .load 59 x)
    (b : Nat) (hx : a.eval x = .pointer (some ⟨b, 0, none⟩)) (m : MD) (hb : Blk w b (modC m) 59) (h : wpList Try.prog ops Q rest (a.put op.dst (.agg (modC m))) w) : wpList Try.prog ops Q (op :: rest) a w :=
  wpList_load_row hgd _ x ho b hx _ _ _ _ hb Try.underlying59 rfl (by rw [modC_size]; exact info_md1) h
/-- the whole model into its box -/
theorem wpList_storeM (hgd : op.guard = none) (x y : Operand) (ho : op.op = .store 59 x y)
    (b : Nat) (hx : a.eval x = .pointer (some ⟨b, 0, none⟩)) (m m0 : MD) (hone : modOne m) (hy : a.eval y = .agg (modC m)) (hb : Blk w b (modC m0) 59)
    (h : ∀ w', Hid (Blk w' b (modC m) 59) → Hid (Keep (fun k => k = b) w w') → wpList Try.prog ops Q rest (a.put op.dst undef) w') : wpList Try.prog ops Q (op :: rest) a w := by
  refine wpList_plain hgd fun _ hK => ?_
  have hr := run_storeVar_row (P := Try.prog) w b _ _ (modC m0) (modC m) hb (by rw [modC_size]; exact info_md1) (by rw [modC_size, modC_size]) (modC_one hone)
  unfold Oper.wp execOp
  simp only [ho, hx, hy, Instr.storeAt, Instr.sureAddr, Sem.run_bind, Sem.run_pure, Result.andThen_ok, hr]
  exact hK _ _ (h _ (setRow_heap w b (modC m0) _ _ _ hb) ((Keep.refl (fun k => k = b) w).setRow (.inl rfl) _))
/-- a box for a model -/
theorem wpList_boxM (hgd : op.guard = none) (x : Operand) (ho : op.op = .box 59 x)
    (m : MD) (hx : a.eval x = .agg (modC m))
    (h : ∀ w', Hid (w' = w.alloc (.cells (modC m) 59)) → Hid (Blk w' w.heap.size (modC m) 59) → Hid (Below w.heap.size w w') → Hid (w'.heap.size = w.heap.size + 1) → wpList Try.prog ops Q rest (a.put op.dst (.pointer (some ⟨w.heap.size, 0, none⟩))) w') : wpList Try.prog ops Q (op :: rest) a w := by
  refine wpList_plain hgd fun _ hK => ?_
  unfold Oper.wp execOp
  simp only [ho, hx, Instr.box, newVar, newRow, Value.cells, Sem.run_bind, Sem.run_pure, Result.andThen_ok, run_newObj_alloc]
  exact hK _ _ (h _ rfl (Blk.new w _ _) ((Below.refl _ w).alloc (Nat.le_refl _) _) (show _ = _ by simp))
/-- a box of zeros -/
theorem wpList_allocM (hgd : op.guard = none) (ho : op.op = .alloc 59)
    (h : ∀ w', Hid (w' = w.alloc (.cells (modC md0) 59)) → Hid (Blk w' w.heap.size (modC md0) 59) → Hid (Below w.heap.size w w') → Hid (w'.heap.size = w.heap.size + 1) → wpList Try.prog ops Q rest (a.put op.dst (.pointer (some ⟨w.heap.size, 0, none⟩))) w') : wpList Try.prog ops Q (op :: rest) a w := by
  refine wpList_plain hgd fun _ hK => ?_
  have hz : (zeroValue 59).run Try.prog w = .ok (.agg (modC md0)) w := by
    have h2 := info_md2
    cases e : Try.prog.info? 59 with
    | none => rw [e] at h2; cases h2
    | some i =>
      rw [e] at h2
      have h3 : i.zero = some (.agg (modC md0)) := h2
      simp [zeroValue, typeInfo, e, h3]
  unfold Oper.wp execOp
  simp only [ho, Instr.alloc, newVar, newRow, Value.cells, Sem.run_bind, Sem.run_pure, Result.andThen_ok, run_newObj_alloc, hz]
  exact hK _ _ (h _ rfl (Blk.new w _ _) ((Below.refl _ w).alloc (Nat.le_refl _) _) (show _ = _ by simp))
end
theorem info_lists : (Try.prog.info? 92).map (fun i => (i.zero, i.size, i.bytes)) = some (some (.slice none 0 0), 1, 24) := by kernel_rfl
end Go.Proofs.Ytlodiibmofeikaa
