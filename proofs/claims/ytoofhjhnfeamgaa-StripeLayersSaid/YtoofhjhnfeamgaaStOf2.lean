/- stripe: Of, an iterator. -/
import Derived.Test.YtoofhjhnfeamgaaKeepC
import Derived.Test.YtoofhjhnfeamgaaStOf
namespace Go.Proofs.Ytoofhjhnfeamgaa
open Go.RowKit Go.Shelf
attribute [local go_sem] Oper.semAt_some
set_option linter.unusedVariables false
set_option linter.unusedSimpArgs false

/-- a block's number, of z -/
abbrev Blk0 (z : Nat) := { x : Nat // x < z }
def vals {z : Nat} (l : List (Blk0 z)) : List Nat := l.map (·.1)
theorem vals_snoc {z : Nat} (l : List (Blk0 z)) (x : Blk0 z) : vals (l ++ [x]) = vals l ++ [x.1] := by simp [vals]
theorem vals_len {z : Nat} (l : List (Blk0 z)) : (vals l).length = l.length := by simp [vals]
theorem nextIs_step {n : Nat} {m : Int} {f z i : Nat} (h : NextIs n m f z (some i)) : i < z ∧ preL n m i = preL n m f ∧ preL n m (i + 1) = preL n m f ++ [i] := by
  obtain ⟨h1, h2, h3, h4⟩ := h
  have e : preL n m i = preL n m f := preL_skip (by omega) (fun j h5 h6 => h4 j h6 (by omega))
  exact ⟨h1, e, by rw [preL_take h3, e]⟩
theorem nextIs_end {n : Nat} {m : Int} {f z : Nat} (h : NextIs n m f z none) (hf : f ≤ z) : preL n m z = preL n m f := preL_skip hf (fun j h5 h6 => h j h6 (by omega))

/-- what Next tells, in two values -/
def NextW (n : Nat) (m f : Int) (z : Nat) (i : Int) (ok : Bool) : Prop := if ok then ∃ q : Nat, i = q ∧ NextIs n m f z (some q) else NextIs n m f z none
theorem next_two (b s k n : Nat) (m f : Int) (w : World) (h : PlanAt w b s k n) (hp : PlanOk s k n) :
    Calls Try.prog 23 #[.pointer (some ⟨b, 0, none⟩), .int .i64 m, .int .i64 f] w fun e w' => ∃ i ok, e = .returned (.tuple #[.int .i64 i, .bool ok]) ∧ Hid (NextW n m f (nb s k) i ok) ∧ Hid (Below w.heap.size w w') :=
  (next_any b s k n m f w h hp).mono fun e w' ⟨o, h1, h2, h3⟩ => by
    cases o with
    | none => exact ⟨0, false, h1, h2, h3⟩
    | some q => exact ⟨q, true, h1, ⟨q, rfl, h2⟩, h3⟩
set_option maxRecDepth 100000 in
set_option maxHeartbeats 4000000 in
theorem of1_in (n : Nat) (hn : 1 ≤ n) (l B1 B2 b s k nn : Nat) (m : Int) (S : Nat → Prop) (hp : PlanOk s k nn) (J Jx : List (Blk0 (nb s k)) → World → Prop) (W : World) (hJ : AbidesFrom W.heap.size J)
    (hb : ¬ S b) (hS1 : ¬ S B1) (hS2 : ¬ S B2)
    (hY : ∀ pre x W, J pre W → pre.length < (preL nn m (nb s k)).length → YieldAt Fence.wide (n - 1) Try.prog l #[.int .i64 (x.1 : Int)] W fun e W' =>
      (e = .returned (.bool true) ∧ J (pre ++ [x]) W' ∧ KeepC S W W') ∨ (e = .returned (.bool false) ∧ Jx (pre ++ [x]) W'))
    (h1 : Blk W B1 #[.pointer (some ⟨b, 0, none⟩)] 24) (h2 : Blk W B2 #[.int .i64 m] 3) (hP : PlanAt W b s k nn) (h0 : J [] W) :
    CallsIn Fence.wide n Try.prog 29 #[.func (.yield l) #[] #[], .pointer (some ⟨B1, 0, none⟩), .pointer (some ⟨B2, 0, none⟩)] W fun e W' => (∃ v, e = .returned v) ∧
      ((∃ ys, vals ys = preL nn m (nb s k) ∧ J ys W') ∨ (∃ pre, vals pre <+: preL nn m (nb s k) ∧ Jx pre W')) := by
  have HNX := Lib.hid (fun (f : Int) (w : World) (h : PlanAt w b s k nn) => next_two b s k nn m f w h hp)
  have HY := Lib.hid hY
  have HJ := Lib.hid hJ
  have HB1 := Lib.hid h1
  have HB2 := Lib.hid h2
  have HP := Lib.hid hP
  have hz := nb_le hp.1 hp.2.1
  obtain ⟨z, hzz⟩ : ∃ z, z = nb s k := ⟨_, rfl⟩
  have HZ := Lib.hid hzz
  have c1 : W.cell? ⟨B1, 0, none⟩ = some (.pointer (some ⟨b, 0, none⟩)) := h1.cell 0 rfl
  have c2 : W.cell? ⟨B2, 0, none⟩ = some (.int .i64 m) := h2.cell 0 rfl
  rw [← hzz] at hz
  clear hY hJ h1 h2 hP hp hzz
  refine callsIn_of_wp Try.func29 rfl trivial ?_ rfl
  simp only [Try.ntmps29, List.size_toArray, List.length_cons, List.length_nil, Nat.reduceAdd, Nat.reduceSub, Array.replicate_succ, Array.replicate_zero, List.push_toArray, List.append_toArray, List.nil_append, List.cons_append]
  have HC0 := Lib.hid (HNX.out 0 W HP.out)
  gi_wp2
  refine ⟨trivial, ?_⟩
  refine (callsIn_wide.2 HC0.out).mono ?_
  rintro e w1 ⟨i, ok, rfl, hN, hb1⟩
  have HJ1 : J [] w1 := HJ.out _ W w1 none h0 (grown_below hb1.out) (fun r e => by cases e)
  have HK1 : Hid (KeepC S W w1) := (KeepC.refl S W).below hb1.out
  gi_wp2
  gi_loopw [4, 5] (fun x4 x5 wr => ∃ (i : Int) (ok : Bool) (f : Nat) (pre : List (Blk0 (nb s k))), x4 = .int .i64 i ∧ x5 = .bool ok ∧ f ≤ z ∧ Hid (NextW nn m f (nb s k) i ok) ∧ Hid (vals pre = preL nn m f) ∧ J pre wr ∧ Hid (KeepC S W wr)) (fun x4 x5 _ => match x5 with | .bool true => (z + 1) - (intOf x4).toNat | _ => 0)
  case atStart => exact ⟨i, ok, 0, [], rfl, rfl, Nat.zero_le _, hN, rfl, HJ1, HK1⟩
  case round =>
    obtain ⟨i, ok, f, pre, rfl, rfl, hfz, HN, HV, hJr, HK⟩ := hrel
    cases ok with
    | false =>
      gi_wp2
      refine ⟨fun _ h => (by cases h), ?_⟩
      gi_wp2
      go_end0
      exact ⟨⟨_, rfl⟩, .inl ⟨pre, by rw [HV.out]; exact (nextIs_end (by simpa [NextW] using HN.out) (by have := HZ.out; omega)).symm, hJr⟩⟩
    | true =>
      obtain ⟨q, rfl, hq⟩ : ∃ q : Nat, i = q ∧ NextIs nn m f (nb s k) (some q) := by simpa [NextW] using HN.out
      obtain ⟨s1, s2, s3⟩ := nextIs_step hq
      rw [← HZ.out] at s1
      have HS3 := Lib.hid s3
      have hpl : pre.length < (preL nn m (nb s k)).length := by
        have h1 := (preL_prefix (n := nn) (m := m) (show q + 1 ≤ nb s k by have := HZ.out; omega)).length_le
        rw [s3, List.length_append, ← HV.out, vals_len] at h1
        simp at h1; omega
      have hqn : q < nb s k := by have := HZ.out; omega
      obtain ⟨fn, tmps, assign, body, hy, hR⟩ := HY.out pre ⟨q, hqn⟩ wr hJr hpl
      dsimp only at hy
      have HVX : Hid (vals (pre ++ [⟨q, hqn⟩]) = preL nn m (q + 1)) := by show _ = _; rw [vals_snoc, HV.out, s3]
      clear hq s2 s3 hpl
      gi_wp2
      refine hR.mono ?_
      rintro e W3 (⟨rfl, hJ3, hk3⟩ | ⟨rfl, hJx3⟩)
      · have HK3 : Hid (KeepC S W W3) := HK.out.trans hk3
        have d1 : W3.cell? ⟨B1, 0, none⟩ = some (.pointer (some ⟨b, 0, none⟩)) := (HK3.out.blk HB1.out hS1).cell 0 rfl
        have d2 : W3.cell? ⟨B2, 0, none⟩ = some (.int .i64 m) := (HK3.out.blk HB2.out hS2).cell 0 rfl
        have HC3 := Lib.hid (HNX.out ((q : Int) + 1) W3 (HK3.out.blk HP.out hb))
        clear hk3 hy hR
        gi_wp2
        refine ⟨trivial, ?_⟩
        refine (callsIn_wide.2 HC3.out).mono ?_
        rintro e w4 ⟨i4, ok4, rfl, hN4, hb4⟩
        have HJ4 : J (pre ++ [⟨q, hqn⟩]) w4 := HJ.out _ W3 w4 none hJ3 (grown_below hb4.out) (fun r e => by cases e)
        have HK4 : Hid (KeepC S W w4) := HK3.out.below hb4.out
        have HN4 : Hid (NextW nn m ((q + 1 : Nat) : Int) (nb s k) i4 ok4) := by have h := hN4.out; rwa [show ((q + 1 : Nat) : Int) = (q : Int) + 1 by omega]
        gi_wp2
        go_roundw
        case rel => exact ⟨i4, ok4, q + 1, pre ++ [⟨q, hqn⟩], rfl, rfl, by omega, HN4, HVX, HJ4, HK4⟩
        case measure =>
          cases ok4 with
          | false => simp [intOf]; omega
          | true =>
            obtain ⟨q4, rfl, hq4⟩ : ∃ q' : Nat, i4 = q' ∧ NextIs nn m ((q + 1 : Nat) : Int) (nb s k) (some q') := by simpa [NextW] using HN4.out
            have := hq4.2.1
            simp [intOf]; omega
      · gi_wp2
        go_end0
        exact ⟨⟨_, rfl⟩, .inr ⟨_, by rw [HVX.out]; exact preL_prefix (by have := HZ.out; omega), hJx3⟩⟩
theorem of_stops (n : Nat) (hn : 1 ≤ n) (B1 B2 b s k nn : Nat) (m : Int) (S : Nat → Prop) (hp : PlanOk s k nn) (w : World) (hb : ¬ S b) (hS1 : ¬ S B1) (hS2 : ¬ S B2)
    (h1 : Blk w B1 #[.pointer (some ⟨b, 0, none⟩)] 24) (h2 : Blk w B2 #[.int .i64 m] 3) (hP : PlanAt w b s k nn) :
    SeqStopsK Fence.wide n Try.prog 29 #[.pointer (some ⟨B1, 0, none⟩), .pointer (some ⟨B2, 0, none⟩)] (fun x : Blk0 (nb s k) => #[Value.int .i64 (x.1 : Int)]) (KeepC S) (fun ys => vals ys = preL nn m (nb s k)) (fun pre => vals pre <+: preL nn m (nb s k)) (preL nn m (nb s k)).length w := fun l J Jx W hW hJ _ hY h0 =>
  of1_in n hn l B1 B2 b s k nn m S hp J Jx W hJ hb hS1 hS2 hY (h1.below hW) (h2.below hW) (hP.below hW) h0
set_option maxRecDepth 100000 in
theorem of_any (b : Nat) (m : Int) (w : World) : Calls Try.prog 20 #[.pointer (some ⟨b, 0, none⟩), .int .i64 m] w fun e w' => e = .returned (.func (.func 29) #[] #[.pointer (some ⟨w.heap.size, 0, none⟩), .pointer (some ⟨w.heap.size + 1, 0, none⟩)]) ∧ w' = (w.alloc (.cells #[.pointer (some ⟨b, 0, none⟩)] 24)).alloc (.cells #[.int .i64 m] 3) := by
  go_enter Try.func20, Try.ntmps20
  go_wp2
  go_ret
  exact ⟨rfl, rfl⟩
end Go.Proofs.Ytoofhjhnfeamgaa
