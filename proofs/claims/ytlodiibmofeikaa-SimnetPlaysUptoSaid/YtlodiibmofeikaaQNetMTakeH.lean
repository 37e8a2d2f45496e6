/- simnet: the model's take. -/
import Derived.Test.YtlodiibmofeikaaQNetMGive2
import Derived.Test.YtlodiibmofeikaaQNetMore
import Derived.Test.YtlodiibmofeikaaQNetHole
import Derived.Test.YtlodiibmofeikaaQRegRound
import Derived.Test.YtlodiibmofeikaaQEE
import Derived.Test.YtlodiibmofeikaaQDet
namespace Go.Proofs.Ytlodiibmofeikaa
open Go.RowKit Go.Shelf
attribute [local go_sem] Oper.semAt_some
set_option linter.unusedVariables false
set_option linter.unusedSimpArgs false
theorem boxes5n (w : World) (a b c d e : Array Value) (Ta Tb Tc Td Te : TypeId) :
    let w' := ((((w.alloc (.cells a Ta)).alloc (.cells b Tb)).alloc (.cells c Tc)).alloc (.cells d Td)).alloc (.cells e Te)
    Blk w' w.heap.size a Ta ∧ Blk w' (w.heap.size + 1) b Tb ∧ Blk w' (w.heap.size + 1 + 1) c Tc ∧ Blk w' (w.heap.size + 1 + 1 + 1) d Td ∧ Blk w' (w.heap.size + 1 + 1 + 1 + 1) e Te ∧ Below w.heap.size w w' ∧ w'.heap.size = w.heap.size + 1 + 1 + 1 + 1 + 1 := by
  intro w'
  have z1 : (w.alloc (.cells a Ta)).heap.size = w.heap.size + 1 := by simp
  have z2 : ((w.alloc (.cells a Ta)).alloc (.cells b Tb)).heap.size = w.heap.size + 1 + 1 := by simp
  have z3 : (((w.alloc (.cells a Ta)).alloc (.cells b Tb)).alloc (.cells c Tc)).heap.size = w.heap.size + 1 + 1 + 1 := by simp
  have z4 : ((((w.alloc (.cells a Ta)).alloc (.cells b Tb)).alloc (.cells c Tc)).alloc (.cells d Td)).heap.size = w.heap.size + 1 + 1 + 1 + 1 := by simp
  have n1 := Blk.new w a Ta
  have n2 := Blk.new (w.alloc (.cells a Ta)) b Tb
  have n3 := Blk.new ((w.alloc (.cells a Ta)).alloc (.cells b Tb)) c Tc
  have n4 := Blk.new (((w.alloc (.cells a Ta)).alloc (.cells b Tb)).alloc (.cells c Tc)) d Td
  have n5 := Blk.new ((((w.alloc (.cells a Ta)).alloc (.cells b Tb)).alloc (.cells c Tc)).alloc (.cells d Td)) e Te
  rw [z1] at n2
  rw [z2] at n3
  rw [z3] at n4
  rw [z4] at n5
  refine ⟨(((n1.alloc _).alloc _).alloc _).alloc _, ((n2.alloc _).alloc _).alloc _, (n3.alloc _).alloc _, n4.alloc _, n5, ?_, by simp [w']⟩
  exact (((((Below.refl _ w).alloc (Nat.le_refl _) _).alloc (by omega) _).alloc (by omega) _).alloc (by omega) _).alloc (by omega) _
/-- what the model's take leaves -/
structure TkR (w w' : World) (col : Nat → Nat) (nb : Nat) (gd : GD) (delay room : Int) (pv : Value) (P : List PD) (fv : Value) (used : Nat) (s : StN) (m m' : MD) (asks : List AskD) (Xs : List (List RM)) (F F' : List FD) (p : Nat) (pd : PD) (now : Int) : Prop where
  ex : ∃ v' X' vs', NetAt w' col nb gd delay room pv (P.set p ⟨pd.b, v', pd.l.drop (dueN pd.l now)⟩) fv F used s ∧ MdAt w' (fun q => col q = 0) m' asks vs' (Xs.set p X') F' ∧ (pd.l.drop (dueN pd.l now)).map toR = sorted X'
  same : m'.rc = m.rc ∧ m'.delay = m.delay ∧ m'.room = m.room ∧ m'.j = m.j ∧ m'.lv = m.lv ∧ m'.av = m.av ∧ m'.fv = m.fv ∧ m'.used = m.used ∧ m'.s = m.s
  kp : Keep (fun q => col q = 6 + p) w w'
theorem keep_turn {S : Nat → Prop} {w W : World} {q : Nat} {o' : Obj} (h : Keep S w W) (hq : w.heap.size ≤ q) : Keep S w (W.putObj q o') :=
  ⟨h.os, h.tape, h.output, by have := h.size; simpa using this, fun k hk hn => (World.putObj_heap_other (by omega)).trans (h.block k hk hn)⟩
/-- take's boxes -/
structure Bx (W : World) (q4 q6 q7 q8 q9 q10 : Nat) (c4 c6 c7 c8 c9 c10 : Array Value) : Prop where
  b4 : Blk W q4 c4 59
  b6 : Blk W q6 c6 3
  b7 : Blk W q7 c7 3
  b8 : Blk W q8 c8 59
  b9 : Blk W q9 c9 4
  b10 : Blk W q10 c10 55
theorem Bx.keepC {S : Nat → Prop} {A B : World} {q4 q6 q7 q8 q9 q10 : Nat} {c4 c6 c7 c8 c9 c10 : Array Value} (h : Bx A q4 q6 q7 q8 q9 q10 c4 c6 c7 c8 c9 c10) (hk : KeepC S A B) (hs : ∀ q, q = q4 ∨ q = q6 ∨ q = q7 ∨ q = q8 ∨ q = q9 ∨ q = q10 → ¬ S q) : Bx B q4 q6 q7 q8 q9 q10 c4 c6 c7 c8 c9 c10 :=
  ⟨hk.blk h.b4 (hs _ (by simp)), hk.blk h.b6 (hs _ (by simp)), hk.blk h.b7 (hs _ (by simp)), hk.blk h.b8 (hs _ (by simp)), hk.blk h.b9 (hs _ (by simp)), hk.blk h.b10 (hs _ (by simp))⟩
theorem Bx.turn {W : World} {q : Nat} {o o' : Obj} {q4 q6 q7 q8 q9 q10 : Nat} {c4 c6 c7 c8 c9 c10 : Array Value} (h : Bx W q4 q6 q7 q8 q9 q10 c4 c6 c7 c8 c9 c10) (ho : W.heap[q]? = some o) (hc : o.isCells = false) : Bx (W.putObj q o') q4 q6 q7 q8 q9 q10 c4 c6 c7 c8 c9 c10 :=
  h.keepC (keepC_turn ho hc (fun _ => False)) (fun _ _ => id)
/-- between the rounds: the row of lists, one of which is the reference's -/
structure TI (w : World) (col : Nat → Nat) (g2 n c2 p : Nat) (vs : List Value) (l : List Msg) (k : Nat) (W : World) : Prop where
  ex : ∃ v X, W.ownsRow w.heap.size 92 1 (.slice (some ⟨g2, 0, none⟩) n c2) n (vs.set p v) ∧ ROwnB W v X ∧ (l.drop k).map toR = sorted X ∧ (∀ g, v.ownBlock = some g → col g = 0 ∧ g ≠ g2)
theorem TI.keepC {S : Nat → Prop} {w : World} {col : Nat → Nat} {g2 n c2 p : Nat} {vs : List Value} {l : List Msg} {k : Nat} {A B : World} (h : TI w col g2 n c2 p vs l k A) (hk : KeepC S A B) (h2 : ¬ S g2) (hs : ∀ q, S q → q ≠ g2 → col q ≠ 0) : TI w col g2 n c2 p vs l k B := by
  obtain ⟨v, X, a, b, c, d⟩ := h.ex
  exact ⟨v, X, hk.row a (fun g hg e => by cases hg; exact h2 e), hk.row b (fun g hg e => hs g e (d g hg).2 (d g hg).1), c, d⟩
theorem exec_loadM {a : Act} {o : Oper} {w : World} (x : Operand) (ho : o.op = .load 59 x) (b : Nat) (hx : a.eval x = .pointer (some ⟨b, 0, none⟩)) (m : MD) (hb : Blk w b (modC m) 59) : (execOp a.eval o).run Try.prog w = .ok (.value (.agg (modC m))) w := by
  have hr := run_loadVar_row (P := Try.prog) w b _ _ (modC m) (0, 0) _ hb Try.underlying59 rfl (by rw [modC_size]; exact info_md1)
  unfold execOp
  simp only [ho, hx, Instr.loadAt, Instr.sureAddr, Sem.run_bind, Sem.run_pure, Result.andThen_ok, hr]
theorem step_storeM {ops : Array Oper} {o : Oper} {ac : Act} {K : Act → World → Prop} {Q : Exit → Act → World → Prop} {E : Prop} {w : World} (hgd : o.guard = none) (x y : Operand) (ho : o.op = .store 59 x y)
    (b : Nat) (hx : ac.eval x = .pointer (some ⟨b, 0, none⟩)) (m m0 : MD) (hone : modOne m) (hy : ac.eval y = .agg (modC m)) (hb : Blk w b (modC m0) 59)
    (h : ∀ w', Hid (Blk w' b (modC m) 59) → Hid (Keep (fun k => k = b) w w') → K (ac.put o.dst undef) w') : if Region.wanted o (yielded ops ac.tmps) = true then Oper.wp Try.prog o ac w K Q else E := by
  have hw : Region.wanted o (yielded ops ac.tmps) = true := by simp [Region.wanted, hgd]
  rw [if_pos hw]
  have hr := run_storeVar_row (P := Try.prog) w b _ _ (modC m0) (modC m) hb (by rw [modC_size]; exact info_md1) (by rw [modC_size, modC_size]) (modC_one hone)
  unfold Oper.wp execOp
  simp only [ho, hx, hy, Instr.storeAt, Instr.sureAddr, Sem.run_bind, Sem.run_pure, Result.andThen_ok, hr]
  exact h _ (setRow_heap w b (modC m0) _ _ _ hb) ((Keep.refl (fun k => k = b) w).setRow (.inl rfl) _)
theorem ne_blk {W : World} {base size n b g : Nat} {e T : TypeId} {v : Value} {xs : List Value} {cs : Array Value} (h : W.ownsRow base e size v n xs) (hg : v.ownBlock = some g) (hb : Blk W b cs T) (hT : T ≠ e) : g ≠ b := by
  intro he
  subst he
  rcases h.2 with ⟨hv, -⟩ | ⟨g', cap, cur, hv, -, hh, -⟩
  · rw [hv] at hg; cases hg
  · rw [hv] at hg
    have hgg : g' = g := Option.some.inj hg
    subst hgg
    unfold Blk at hb
    rw [hh] at hb
    cases hb
    exact hT rfl
/-- take's end -/
theorem tk_end {m : MD} {asks : List AskD} {vs : List Value} {Xs : List (List RM)} {F : List FD} {p : Nat} {now : Int} {w W : World} {col : Nat → Nat} {nb : Nat} {gd : GD} {delay room : Int} {pv : Value} {P : List PD} {fvN : Value} {FN : List FD} {usedN' : Nat} {sN : StN} {pd : PD} {g2 c2 n : Nat}
    (hm : MdAt w (fun q => col q = 0) m asks vs Xs F) (hn : n = vs.length) (hti : TI w col g2 n c2 p vs pd.l (dueN pd.l now) W) (hg2 : col g2 = 0) (hh : NetHole W col p nb gd delay room pv P fvN FN usedN' sN) (hp : P[p]? = some pd)
    (hq : ∃ v', PAt (fun x => col x = 5) W (fun q => col q = 6 + p) pd.b v' (pd.l.drop (dueN pd.l now)) room) (hk : Keep (fun q => col q = 6 + p) w W) :
    TkR w W col nb gd delay room pv P fvN usedN' sN m ⟨m.rc, m.delay, m.room, m.j, m.lv, m.av, .slice (some ⟨g2, 0, none⟩) n c2, m.fv, m.used, m.s⟩ asks Xs FN F p pd now := by
  obtain ⟨v, X, h1, h2, h3, h4⟩ := hti.ex
  obtain ⟨v', hq⟩ := hq
  subst hn
  exact ⟨⟨v', X, _, hh.fill hp hq, (hm.keep hk (fun q h e => by omega)).put (ownsRow_base h1 (Nat.zero_le _)) h2 (fun g hg => (h4 g hg).1) (fun g hg => by cases hg; exact hg2) m.used m.s, h3⟩, ⟨rfl, rfl, rfl, rfl, rfl, rfl, rfl, rfl, rfl⟩, hk⟩
end Go.Proofs.Ytlodiibmofeikaa
