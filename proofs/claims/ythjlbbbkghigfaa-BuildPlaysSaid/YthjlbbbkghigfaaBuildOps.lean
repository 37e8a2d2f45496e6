/- build: the laws' cases and calls. -/
import Derived.Test.YthjlbbbkghigfaaBuild8
import Derived.Test.YthjlbbbkghigfaaRd
import Derived.Test.YthjlbbbkghigfaaRgRef3
namespace Go.Proofs.Ythjlbbbkghigfaa
open Go.RowKit
set_option linter.unusedVariables false
set_option linter.unusedSimpArgs false

/-- a call -/
structure OpB where
  kd : Int
  bk : Int
  tk : Int
  tv : Value
  text : List Int
def opCells (o : OpB) : List Value := [.int .i64 o.kd, .int .i64 o.bk, .int .i64 o.tk, o.tv]
theorem opCells_len (o : OpB) : (opCells o).length = 4 := rfl
structure OpIn (w : World) (o : OpB) : Prop where
  rd : Reads w 1 o.tv o.text.length (o.text.map (Value.int .u8))
  byt : ∀ b ∈ o.text, 0 ≤ b ∧ b < 256
structure OpsIn (w : World) (v : Value) (ops : List OpB) : Prop where
  rd : Reads w 4 v ops.length (ops.flatMap opCells)
  all : ∀ o ∈ ops, OpIn w o
theorem OpIn.below {w w' : World} {o : OpB} (h : OpIn w o) (hb : Below w.heap.size w w') : OpIn w' o := ⟨h.rd.below hb, h.byt⟩
theorem OpsIn.below {w w' : World} {v : Value} {ops : List OpB} (h : OpsIn w v ops) (hb : Below w.heap.size w w') : OpsIn w' v ops := ⟨h.rd.below hb, fun o ho => (h.all o ho).below hb⟩
theorem OpsIn.at {w : World} {v : Value} {ops : List OpB} (h : OpsIn w v ops) {k : Nat} {o : OpB} (ho : ops[k]? = some o) : ∃ g p c, v = .slice (some ⟨g, p, none⟩) ops.length c ∧ w.cell? ⟨g, p + k * 4, none⟩ = some (.int .i64 o.kd) ∧ w.cell? ⟨g, p + k * 4 + 1, none⟩ = some (.int .i64 o.bk) ∧ w.cell? ⟨g, p + k * 4 + 2, none⟩ = some (.int .i64 o.tk) ∧ w.cell? ⟨g, p + k * 4 + 3, none⟩ = some o.tv := by
  obtain ⟨g, p, c, he, hc⟩ := Reads.elem h.rd opCells_len (by omega) ho
  exact ⟨g, p, c, he, hc 0 _ rfl, hc 1 _ rfl, hc 2 _ rfl, hc 3 _ rfl⟩
/-- the state of a law's loop -/
structure StB (W0 w : World) (b s k n : Nat) (x : BuS) : Prop where
  at_ : BuAt w x
  new : BuNew x W0.heap.size
  bel : Below W0.heap.size W0 w
  b_ : x.b = b
  s_ : x.s = s
  k_ : x.k = k
  n_ : x.n = n
theorem StB.below {W0 w w' : World} {b s k n : Nat} {x : BuS} (h : StB W0 w b s k n x) (hb : Below w.heap.size w w') : StB W0 w' b s k n x := ⟨h.at_.below hb, h.new, bmore h.bel hb h.bel.size, h.b_, h.s_, h.k_, h.n_⟩
theorem StB.put {W0 w w' : World} {b s k n : Nat} {x x' : BuS} {block tick : Int} {bs : List Int} (h : StB W0 w b s k n x) (hp : PutR x block tick bs w w' x') : StB W0 w' b s k n x' :=
  ⟨hp.at_, (hp.far h.bel (Nat.le_refl _) h.new).2, (hp.far h.bel (Nat.le_refl _) h.new).1, hp.same.1.trans h.b_, hp.same.2.2.2.1.trans h.s_, hp.same.2.2.2.2.1.trans h.k_, hp.same.2.2.2.2.2.1.trans h.n_⟩
theorem PutR.len {x x' : BuS} {block tick : Int} {bs : List Int} {w w' : World} (hp : PutR x block tick bs w w' x') : x'.log.length ≤ x.log.length + 1 := by
  by_cases hE : putE x block tick bs.length = 0
  · rw [(hp.yes hE).2.2]; simp
  · rw [(hp.no hE).2.2]; omega
/-- a call of Put by a law -/
theorem put_op (x : BuS) (o : OpB) (W0 w : World) (b s k n : Nat) (hin : OpIn W0 o) (h : StB W0 w b s k n x) (hll : x.log.length ≤ 100000) :
    Calls Try.prog 10 #[.pointer (some ⟨b, 0, none⟩), .int .i64 o.bk, o.tv, .int .i64 o.tk] w fun e w' => ∃ x', e = .returned (.int .i64 (putE x o.bk o.tk o.text.length)) ∧ PutR x o.bk o.tk o.text w w' x' := by
  have hr := (hin.below h.bel).rd
  have hb := h.b_
  subst hb
  by_cases h0 : 0 < o.text.length
  · refine put_any x o.bk o.tk o.tv o.text w h.at_ hr (fun g hg e => ?_) hll
    have h1 := hin.rd.lt g hg h0
    have h2 := BuSet.new h.new e
    omega
  · by_cases hi : 0 ≤ o.bk ∧ o.bk < nb x.s x.k
    · obtain ⟨i, hi2⟩ : ∃ i : Nat, o.bk = i := ⟨o.bk.toNat, by omega⟩
      rw [hi2]
      refine put_err x i o.tk o.tv o.text w h.at_ hr (by omega) (fun hE => ?_)
      have hk1 := h.at_.ok.2.1
      have his := (nb_lt (s := x.s) (i := i) hk1).1 (by omega)
      have e1 : (i : Int) * x.k = ((i * x.k : Nat) : Int) := (Int.natCast_mul _ _).symm
      unfold putE at hE
      rw [e1] at hE
      split at hE
      · cases hE
      · split at hE
        · cases hE
        · split at hE
          · cases hE
          · omega
    · exact put_out x o.bk o.tk o.tv o.text w h.at_ hr hi
def rightC (s k n : Int) (m : Nat) : Bool := decide (0 ≤ s ∧ s ≤ 400 ∧ 1 ≤ k ∧ k ≤ 64 ∧ 1 ≤ n ∧ n ≤ 8 ∧ (m : Int) ≤ 60)
set_option maxRecDepth 100000 in
set_option maxHeartbeats 1000000 in
theorem right26_any (s k n : Int) (A : Option Addr) (m c : Nat) (w : World) : Calls Try.prog 7 #[.agg #[.int .i64 s, .int .i64 k, .int .i64 n, .slice A m c]] w fun e w' => e = .returned (.bool (rightC s k n m)) ∧ Below w.heap.size w w' := by
  have hbz := Blk.new w #[.int .i64 s, .int .i64 k, .int .i64 n, .slice A m c] 24
  have HB := Lib.hid ((Below.refl _ w).alloc (Nat.le_refl w.heap.size) (.cells #[.int .i64 s, .int .i64 k, .int .i64 n, .slice A m c] 24))
  obtain ⟨c0, c1, c2, c3⟩ := blk4 hbz
  clear hbz
  have hcs : (0 ≤ s ∧ s ≤ 400 ∧ 1 ≤ k ∧ k ≤ 64 ∧ 1 ≤ n ∧ n ≤ 8 ∧ (m : Int) ≤ 60) ∨ ¬ 0 ≤ s ∨ (0 ≤ s ∧ ¬ s ≤ 400) ∨ (0 ≤ s ∧ s ≤ 400 ∧ ¬ 1 ≤ k) ∨ (0 ≤ s ∧ s ≤ 400 ∧ 1 ≤ k ∧ ¬ k ≤ 64) ∨ (0 ≤ s ∧ s ≤ 400 ∧ 1 ≤ k ∧ k ≤ 64 ∧ ¬ 1 ≤ n) ∨ (0 ≤ s ∧ s ≤ 400 ∧ 1 ≤ k ∧ k ≤ 64 ∧ 1 ≤ n ∧ ¬ n ≤ 8) ∨ (0 ≤ s ∧ s ≤ 400 ∧ 1 ≤ k ∧ k ≤ 64 ∧ 1 ≤ n ∧ n ≤ 8 ∧ ¬ (m : Int) ≤ 60) := by omega
  rcases hcs with ⟨h1, h2, h3, h4, h5, h6, h7⟩ | h1 | ⟨h1, h2⟩ | ⟨h1, h2, h3⟩ | ⟨h1, h2, h3, h4⟩ | ⟨h1, h2, h3, h4, h5⟩ | ⟨h1, h2, h3, h4, h5, h6⟩ | ⟨h1, h2, h3, h4, h5, h6, h7⟩
  · rw [show rightC s k n m = true from decide_eq_true ⟨h1, h2, h3, h4, h5, h6, h7⟩]
    go_enter Try.func7, Try.ntmps7
    go_wp2
    go_ret
    exact ⟨rfl, HB.out⟩
  all_goals
    rw [show rightC s k n m = false from decide_eq_false (fun h => by omega)]
    go_enter Try.func7, Try.ntmps7
    go_wp2
    go_ret
    exact ⟨rfl, HB.out⟩
theorem rightC_ok {s k n : Int} {m : Nat} (h : rightC s k n m = true) : ∃ s' k' n' : Nat, s = s' ∧ k = k' ∧ n = n' ∧ PlanOk s' k' n' ∧ s' ≤ 400 ∧ m ≤ 60 := by
  have h := of_decide_eq_true h
  exact ⟨s.toNat, k.toNat, n.toNat, by omega, by omega, by omega, ⟨by omega, by omega, by omega, by omega, by omega⟩, by omega, by omega⟩
set_option maxRecDepth 100000 in
theorem bplan_any (x : BuS) (w : World) (h : BuAt w x) : Calls Try.prog 14 #[.pointer (some ⟨x.b, 0, none⟩)] w fun e w' => e = .returned (.pointer (some ⟨x.pb, 0, none⟩)) ∧ w = w' := by
  obtain ⟨c0, c1, c2, c3, c4⟩ := h.c
  clear h
  go_enter Try.func14, Try.ntmps14
  go_wp2
  go_ret
  exact ⟨rfl, rfl⟩
set_option maxRecDepth 100000 in
set_option maxHeartbeats 1000000 in
theorem pairs_yes (A B : Option Addr) (c d n : Nat) (x : List (Int × Int)) (w : World) (hx : Reads w 2 (.slice A n c) n (x.flatMap pairCells)) (hy : Reads w 2 (.slice B n d) n (x.flatMap pairCells)) (hn : n ≤ 1000000) (hl : n = x.length) :
    Calls Try.prog 17 #[.slice A n c, .slice B n d] w fun e w' => e = .returned (.bool true) ∧ ∃ n, w' = w.drewN n := by
  have HX := Lib.hid hx
  have HY := Lib.hid hy
  have HL := Lib.hid hl
  clear hx hy hl
  have pe := pair_eq
  go_enter Try.func17, Try.ntmps17
  go_wp2
  go_loopw [5, 13] (fun _ i wr => ∃ k m : Nat, k ≤ n ∧ i = .int .i64 k ∧ Hid (wr = w.drewN m)) (fun _ i _ => n - (intOf i).toNat)
  case atStart => exact ⟨0, 0, by omega, rfl, rfl⟩
  case round =>
    obtain ⟨k, m, hk, rfl, HW⟩ := hrel
    by_cases hlt : k < n
    · obtain ⟨a, ha⟩ : ∃ a, x[k]? = some a := ⟨_, List.getElem?_eq_getElem (by rw [← HL.out]; exact hlt)⟩
      obtain ⟨g1, p1, c1, he1, a0, a1⟩ := (HX.out.drewN m).pair ha
      obtain ⟨g2, p2, c2, he2, b0, b1⟩ := (HY.out.drewN m).pair ha
      rw [← HW.out] at a0 a1 b0 b1
      cases he1
      cases he2
      have i1 : (0 : Int) ≤ (k : Int) := by omega
      have i2 : (k : Int) < (n : Int) := by omega
      have t1 : (a.1 == a.1) = true := by simp
      have t2 : (a.2 == a.2) = true := by simp
      clear ha
      go_wp2_with fail
      go_quiet (fail)
      go_wp2
      go_roundw
      case rel => exact ⟨k + 1, m + nq, by omega, by go_num, Lib.hid (by rw [HW.out]; simp [World.drewN, Nat.add_assoc])⟩
      case measure => simp [intOf]; omega
    · obtain rfl : k = n := by omega
      go_wp2
      go_ret
      exact ⟨rfl, m, HW.out⟩
end Go.Proofs.Ythjlbbbkghigfaa
