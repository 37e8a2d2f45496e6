/- clr: the law ClrPlays. -/
import Derived.Test.YthnnhagccemnnaaClrStep2
import Derived.Test.YthnnhagccemnnaaClrHolds
namespace Go.Proofs.Ythnnhagccemnnaa
open Go.RowKit
set_option linter.unusedVariables false
set_option linter.unusedSimpArgs false

section
variable {ops : Array Oper} {rest : List Oper} {op : Oper} {a : Act} {w : World} {Q : Exit → Act → World → Prop}
/-- a load behind a guard -/
theorem wpList_loadSg (hw : Region.wanted op (yielded ops a.tmps) = true) (x : Operand) (ho : op.op = .load 45 x)
    (b : Nat) (hx : a.eval x = .pointer (some ⟨b, 0, none⟩)) (s : CSt) (hb : Blk w b (stC s) 45) (h : wpList Try.prog ops Q rest (a.put op.dst (.agg (stC s))) w) : wpList Try.prog ops Q (op :: rest) a w := by
  refine BigFrame.wpList_want hw fun _ hK => ?_
  unfold Oper.wp execOp
  simp only [ho, hx, Sem.run_bind, Sem.run_pure, Result.andThen_ok, run_loadS hb]
  exact hK _ _ h
theorem run_buildS (w : World) : (Instr.build 45 #[(1, .int .i64 (-1))]).run Try.prog w = .ok (.agg (stC (st0 (-1)))) w := by kernel_rfl
/-- State{CLR: -1} -/
theorem wpList_buildS (hgd : op.guard = none) (ho : op.op = .build 45 #[(1, .const (.int .i64 (-1)))])
    (h : wpList Try.prog ops Q rest (a.put op.dst (.agg (stC (st0 (-1))))) w) : wpList Try.prog ops Q (op :: rest) a w := by
  refine wpList_plain hgd fun _ hK => ?_
  have hr := run_buildS w
  have he : a.eval (.const (.int .i64 (-1))) = .int .i64 (-1) := rfl
  unfold Oper.wp execOp
  simp only [ho, List.map_toArray, List.map_cons, List.map_nil, he, hr, Sem.run_bind, Sem.run_pure, Result.andThen_ok]
  exact hK _ _ h
end
theorem told_empty (c : Int) : told (st0 c) 64 = [] := rfl
theorem st0_ok : SOk (st0 (-1)) := ⟨.inl rfl, fun n hn => ⟨show (0 : Int) ≤ 0 by decide, show (0 : Int) ≤ 1099511627776 by decide⟩⟩
structure AtS (w0 w : World) (b : Nat) (v : Value) (s : CSt) (lim : Int) (p7 : Nat) : Prop where
  bk : BkAt w b v (told s 64) lim s.clr
  own : ∀ g, v.ownBlock = some g → w0.heap.size ≤ g ∧ g ≠ p7
  bel : Below w0.heap.size w0 w
  lo : w0.heap.size ≤ b
  ok : SOk s
  bx : Blk w p7 (stC s) 45
  l7 : w0.heap.size ≤ p7
  ne : b ≠ p7
theorem AtS.below {w0 w w' : World} {b : Nat} {v : Value} {s : CSt} {lim : Int} {p7 : Nat} (h : AtS w0 w b v s lim p7) (hb : Below w.heap.size w w') : AtS w0 w' b v s lim p7 :=
  ⟨h.bk.below hb, h.own, bmore h.bel hb h.bel.size, h.lo, h.ok, h.bx.below hb, h.l7, h.ne⟩
/-- step, and the store of what it tells -/
theorem AtS.step {w0 w w' w9 : World} {b : Nat} {v : Value} {s s' : CSt} {lim : Int} {p7 : Nat} (h : AtS w0 w b v s lim p7) (k : StR w w' b v lim s') (hb : Blk w9 p7 (stC s') 45) (hk : Keep (fun k => k = p7) w' w9) :
    ∃ v', AtS w0 w9 b v' s' lim p7 := by
  obtain ⟨ok, ⟨⟨v', h1, h2⟩, h3⟩⟩ := k
  have hp := h.bx.lt
  have ho : ∀ g, v'.ownBlock = some g → w0.heap.size ≤ g ∧ g ≠ p7 := fun g hg => by
    rcases h2 g hg with x | x
    · exact h.own g x
    · exact ⟨Nat.le_trans h.bel.size x, by omega⟩
  refine ⟨v', h1.keep hk h.ne (fun g hg e => (ho g hg).2 e), ho, bkeep (bkeep h.bel h3 (Nat.le_refl _) (fun q hq => ?_)) hk (Nat.le_refl _) (fun q e => by rw [e]; exact h.l7), h.lo, ok, hb, h.l7, h.ne⟩
  rcases hq with e | e
  · rw [e]; exact h.lo
  · exact (h.own q e).1
theorem AtS.box {w0 w w' : World} {b : Nat} {v : Value} {s s' : CSt} {lim : Int} {p7 : Nat} (h : AtS w0 w b v s lim p7) (k : StR w w' b v lim s') : Blk w' p7 (stC s) 45 :=
  h.bx.keep k.chg.kp (by rintro (e | e); · exact h.ne e.symm
                         · exact (h.own p7 e).2 rfl)
set_option maxRecDepth 100000 in
set_option maxHeartbeats 2000000 in
theorem clrPlays_yes (lim : Int) (A : Option Addr) (cc : Nat) (ops : List OpD) (w : World) (hx : Ops w (.slice A ops.length cc) ops) (hn : ops.length ≤ 80) (h1 : 1 ≤ lim) (h2 : lim ≤ 1048576) :
    Calls Try.prog 5 #[.int .i64 lim, .slice A ops.length cc] w fun e w' => e = .returned (.bool true) ∧ Below w.heap.size w w' := by
  have HNW := Lib.hid (new_ok lim w h1 h2)
  have HLT := Lib.hid @later_any
  have HX : Hid (Ops w (.slice A ops.length cc) ops) := hx
  clear hx
  obtain ⟨n, hnl⟩ : ∃ n, n = ops.length := ⟨_, rfl⟩
  have HNL := Lib.hid hnl
  rw [← hnl] at hn
  rw [← hnl]
  clear hnl
  go_enter Try.func5, Try.ntmps5
  go_wp2_with fail
  refine HNW.out.mono ?_
  rintro e w1 ⟨b, v0, rfl, hk0, hlo, hv0, hb1⟩
  have HK0 := Lib.hid hk0
  have HV0 := Lib.hid hv0
  have HB1 := Lib.hid hb1
  clear hk0 hv0 hb1
  go_wp2_with (first
    | (refine wpList_buildS rfl rfl ?_)
    | (refine wpList_allocS rfl rfl ?_; rintro w4 - HZ4 HL4 hs4)
    | (refine wpList_storeS rfl _ _ rfl _ rfl (st0 (-1)) (st0 0) rfl ?_ ?_; exact HZ4.out; rintro w5 HB5 HK5))
  have H0 : Hid (AtS w w5 b v0 (st0 (-1)) lim w1.heap.size) := by
    have hne : b ≠ w1.heap.size := by have := HK0.out.str.lt; omega
    have hb5 := bkeep HL4.out HK5.out (Nat.le_refl _) (fun q e => by omega)
    exact ⟨HK0.out.below hb5, fun g hg => ⟨HV0.out g hg, by have := (HK0.out.ne hg).2; omega⟩, bmore HB1.out hb5 HB1.out.size, hlo, st0_ok, HB5.out, HB1.out.size, hne⟩
  clear HZ4 HL4 hs4 HB5 HK5 HK0 HV0 HB1
  generalize w1.heap.size = p7 at *
  go_loopw [8, 38] (fun nw i wr => ∃ k : Nat, k ≤ n ∧ i = .int .i64 k ∧ ∃ now : Int, nw = .int .i64 now ∧ 0 ≤ now ∧ now ≤ 1000 * k ∧ ∃ v s, Hid (AtS w wr b v s lim p7)) (fun _ i _ => n - (intOf i).toNat)
  case atStart => exact ⟨0, by omega, rfl, 0, rfl, by omega, by omega, v0, _, H0⟩
  case round =>
    obtain ⟨k, hk, rfl, now, rfl, q1, q2, v, s, HA⟩ := hrel
    by_cases hlt : k < n
    · obtain ⟨o, ho⟩ : ∃ o, ops[k]? = some o := ⟨_, List.getElem?_eq_getElem (by rw [← HNL.out]; exact hlt)⟩
      obtain ⟨g, p, c0, he, x0, x1, x2, x3, x4⟩ := Ops.at (Reads.below HX.out HA.out.bel) ho
      cases he
      have i1 : (0 : Int) ≤ (k : Int) := by omega
      have i2 : (k : Int) < (n : Int) := by omega
      have hlt' := HLT.out now o.later
      obtain ⟨n1, n2'⟩ := lat_bd (now := now) (b := o.later)
      generalize lat now o.later = nw at *
      have n2 : nw ≤ 1000 * ((k + 1 : Nat) : Int) := by omega
      have n1 : 0 ≤ nw := by omega
      have HLL := Lib.hid hlt'
      have hbo : Below wr.heap.size wr (wr.alloc (.cells #[.int .i64 o.kind, .int .i64 o.frm, .int .i64 o.ago, .int .i64 o.later, .int .u64 o.rate] 31)) := (Below.refl _ _).alloc (Nat.le_refl _) _
      have HBo := Lib.hid (Blk.new wr #[.int .i64 o.kind, .int .i64 o.frm, .int .i64 o.ago, .int .i64 o.later, .int .u64 o.rate] 31)
      have HA1 := Lib.hid (HA.out.below hbo)
      have HP7 : Hid (¬ wr.heap.size = p7) := (by show ¬ _; have := HA.out.bx.lt; omega)
      have HWL : Hid (w.heap.size ≤ wr.heap.size) := HA.out.bel.size
      clear hlt' n2' ho hbo
      go_wp2_with fail
      generalize wr.alloc (.cells #[.int .i64 o.kind, .int .i64 o.frm, .int .i64 o.ago, .int .i64 o.later, .int .u64 o.rate] 31) = wo at *
      refine (HLL.out _ q1 (by omega)).mono ?_
      rintro e wo' ⟨rfl, rfl⟩
      clear x0 x1 x2 x3 x4
      obtain ⟨x0, x1, x2, x3, x4⟩ := blk5 HBo.out
      go_wp2_with (refine wpList_loadS rfl _ rfl _ rfl s ?_ ?_; exact HA1.out.bx)
      have hst := step_any b v s lim nw o.kind o.frm o.ago o.later o.rate wo HA1.out.bk HA1.out.ok (by omega) ⟨n1, by omega⟩
      unfold opC at hst
      refine hst.mono ?_
      rintro e w2 ⟨s2, rfl, hr2⟩
      have HR2 := Lib.hid hr2
      have HX2 := Lib.hid (HA1.out.box hr2)
      clear hr2 hst
      clear x0 x1 x2 x3 x4
      go_wp2_with (first
        | (refine wpList_storeS rfl _ _ rfl _ rfl s2 s rfl ?_ ?_; exact HX2.out; rintro w9 HB9 HK9; obtain ⟨v2, hA9⟩ := HA1.out.step HR2.out HB9.out HK9.out; have HA9 := Lib.hid hA9; clear hA9 HB9 HK9)
        | (refine wpList_loadSg rfl _ rfl _ rfl s2 ?_ ?_; exact HA9.out.bx))
      refine (same_any b v2 s2 lim w9 HA9.out.bk HA9.out.ok.clr).mono ?_
      rintro e w10 ⟨rfl, hb10⟩
      have HA10 := Lib.hid (HA9.out.below hb10)
      clear hb10
      go_wp2_with fail
      go_roundw
      case rel => exact ⟨k + 1, by omega, by go_num, nw, rfl, n1, n2, v2, s2, HA10⟩
      case measure => simp [intOf]; omega
    · obtain rfl : k = n := by omega
      obtain ⟨wb, hwb⟩ : ∃ wb : World, wb = wr := ⟨_, rfl⟩
      rw [← hwb] at HA ⊢
      clear hwb
      go_wp2_with fail
      refine (awake_any wb).mono ?_
      rintro e w7 ⟨rfl, hb7⟩
      have HB7 := Lib.hid (bmore HA.out.bel hb7 HA.out.bel.size)
      clear hb7
      go_wp2
      go_ret
      exact ⟨rfl, HB7.out⟩
theorem clrPlays_no (lim : Int) (A : Option Addr) (n c : Nat) (w : World) (h : 80 < n ∨ lim < 1 ∨ 1048576 < lim) :
    Calls Try.prog 5 #[.int .i64 lim, .slice A n c] w fun e w' => e = .returned (.bool true) ∧ Below w.heap.size w w' := by
  rcases (by omega : 80 < n ∨ (n ≤ 80 ∧ lim < 1) ∨ (n ≤ 80 ∧ 1 ≤ lim ∧ 1048576 < lim)) with g | ⟨g, g'⟩ | ⟨g, g', g''⟩
  all_goals
    clear h
    go_enter Try.func5, Try.ntmps5
    go_wp2_with fail
    refine (awake_any _).mono ?_
    rintro e w2 ⟨rfl, hb2⟩
    go_wp2
    go_ret
    exact ⟨rfl, hb2⟩
end Go.Proofs.Ythnnhagccemnnaa
