/- pipe: the law PipeTakes. -/
import Derived.Test.YtijmmmgmpfhgoaaPipePlays
namespace Go.Proofs.Ytijmmmgmpfhgoaa
open Go.RowKit Go.Shelf
set_option linter.unusedVariables false
set_option linter.unusedSimpArgs false

theorem dueN_drop (now : Int) : ∀ (l : List Msg), dueN (l.drop (dueN l now)) now = 0 := by
  intro l
  induction l with
  | nil => rfl
  | cons a t ih =>
    by_cases h : a.due ≤ now
    · have : dueN (a :: t) now = dueN t now + 1 := by simp [dueN, h]
      rw [this, List.drop_succ_cons]
      exact ih
    · have : dueN (a :: t) now = 0 := by simp [dueN, h]
      rw [this, List.drop_zero]
      exact this
set_option maxRecDepth 100000 in
set_option maxHeartbeats 2000000 in
theorem pipeTakes_yes (now : Int) (A : Option Addr) (cc : Nat) (ops : List OpD) (w : World) (hx : CaseOk w (.slice A ops.length cc) ops) (hs : decide ((lightN ops : Int) ≤ 120) = true) :
    Calls Try.prog 5 #[.slice A ops.length cc, .int .i64 now] w fun e w' => e = .returned (.bool true) ∧ Below w.heap.size w w' := by
  have HSM := Lib.hid (small_any _ ops w hx)
  rw [hs] at HSM
  have HX := Lib.hid hx
  have hn : ops.length ≤ 120 := by have := len_lightN ops; have := of_decide_eq_true hs; omega
  have HRR : Hid (0 ≤ (200 : Int) ∧ (200 : Int) ≤ 256) := ⟨by omega, by omega⟩
  obtain ⟨n, hnl⟩ : ∃ n, n = ops.length := ⟨_, rfl⟩
  have HNL := Lib.hid hnl
  rw [← hnl] at hn HSM ⊢
  clear hnl hx hs
  go_enter Try.func5, Try.ntmps5
  go_wp2_with fail
  refine HSM.out.mono ?_
  rintro e w1 ⟨rfl, hb1⟩
  have HB1 := Lib.hid hb1
  clear hb1
  go_wp2_with fail
  refine (new_ok 200 w1 (by omega) (by omega)).mono ?_
  rintro e w2 ⟨b, rfl, hp2, hb2⟩
  have H0 := Lib.hid (PS.new hp2 hb2 HRR.out)
  clear hp2 hb2
  go_wp2_with fail
  go_loopw [7, 9, 29] (fun x _ i wr => ∃ k : Nat, k ≤ n ∧ i = .int .i64 k ∧ ∃ X, Hid (PS w1 wr b 200 x X)) (fun _ _ i _ => n - (intOf i).toNat)
  case atStart => exact ⟨0, by omega, rfl, _, H0⟩
  case round =>
    obtain ⟨k, hk, rfl, X, HA⟩ := hrel
    by_cases hlt : k < n
    · obtain ⟨o, g, p, c', ho, hook, he, x0, x1, x2, x3⟩ := (HX.out.below (bmore HB1.out HA.out.bel HB1.out.size)).at (by rw [← HNL.out]; exact hlt)
      cases he
      obtain ⟨A', k', hv, -⟩ := hook.text.val
      rw [hv] at x3
      have i1 : (0 : Int) ≤ (k : Int) := by omega
      have i2 : (k : Int) < (n : Int) := by omega
      have hbo : Below wr.heap.size wr (wr.alloc (.cells #[.int .i64 o.kind, .int .i64 o.at', .int .i64 o.n, .slice A' o.text.length k'] 35)) := (Below.refl _ _).alloc (Nat.le_refl _) _
      have HBo := Lib.hid (Blk.new wr #[.int .i64 o.kind, .int .i64 o.at', .int .i64 o.n, .slice A' o.text.length k'] 35)
      have HA1 := Lib.hid (HA.out.below hbo)
      have HT1 : Hid (Reads (wr.alloc (.cells #[.int .i64 o.kind, .int .i64 o.at', .int .i64 o.n, .slice A' o.text.length k'] 35)) 1 (.slice A' o.text.length k') o.text.length (u8s o.text)) := by
        have h := (hook.below hbo).text
        rw [hv] at h
        exact h
      have HLN : Hid (o.text.length ≤ 1048576) := hook.len
      obtain ⟨⟨G, v, l, hSI, hGlo⟩, hbel⟩ := HA.out
      have HSI1 := Lib.hid (hSI.below hbo)
      have HGL := Lib.hid hGlo
      clear hbo ho hook hv hSI hGlo hbel
      go_wp2_with fail
      generalize wr.alloc (.cells #[.int .i64 o.kind, .int .i64 o.at', .int .i64 o.n, .slice A' o.text.length k'] 35) = wo at *
      refine (step_any b v l 200 o.kind o.at' o.n _ X A' o.text.length k' o.text wo HSI1.out HT1.out rfl HLN.out).mono ?_
      rintro e w3 ⟨xv', X', rfl, hst⟩
      have HA3 := Lib.hid (PS.step HA1.out.bel HGL.out HRR.out hst)
      clear hst x0 x1 x2 x3
      go_wp2_with fail
      go_roundw
      case rel => exact ⟨k + 1, by omega, by go_num, X', HA3⟩
      case measure => simp [intOf]; omega
    · obtain rfl : k = n := by omega
      obtain ⟨wb, hwb⟩ : ∃ wb : World, wb = wr := ⟨_, rfl⟩
      rw [← hwb] at HA ⊢
      clear hwb
      obtain ⟨⟨G, v, l, hSI, hGlo⟩, hbel⟩ := HA.out
      have HSI := Lib.hid hSI
      have HGL := Lib.hid hGlo
      have HBL := Lib.hid (bmore HB1.out hbel HB1.out.size)
      obtain ⟨xA, xk, rfl⟩ := ownsRow_slice hSI.row
      have hll := hSI.len
      have HXL := Lib.hid hSI.xlen
      have hxl : X.length ≤ 200 := by have := hSI.xlen; omega
      clear hSI hGlo hbel HA
      go_wp2_with fail
      refine (due_any b v l 200 now wb HSI.out.at_ (by omega)).mono ?_
      rintro e w3 ⟨rfl, hb3⟩
      have HSI3 := Lib.hid (HSI.out.below hb3)
      have HBL3 := Lib.hid (bmore HBL.out hb3 HBL.out.size)
      have HDLE : Hid (dueN l now ≤ l.length) := dueN_le l now
      clear hb3
      go_wp2_with fail
      refine (ltake_any b v l 200 0 now 0 _ X none 0 0 w3 HSI3.out.at_ HSI3.out.lt (by omega) HSI3.out.row HSI3.out.apart HSI3.out.rel).mono ?_
      rintro e w4 ⟨xv4, X4, rfl, hlt4⟩
      obtain ⟨⟨j, v4, t1, t2, t3, t4⟩, t5, t6, t7⟩ := hlt4
      have hj : j = dueN l now := by omega
      subst hj
      have hS4 : SIn w4 (fun q => G q) b v4 (l.drop (dueN l now)) 200 xv4 X4 := ⟨t1, fun q hq => Nat.lt_of_lt_of_le (HSI3.out.lt q hq) t7.size, t5, t6, t2, by rw [List.length_drop]; omega, HRR.out⟩
      have HS4 := Lib.hid hS4
      have hx4 : ((X.length : Nat) : Int) - ((X4.length : Nat) : Int) = ((dueN l now : Nat) : Int) := by
        have h1 := HXL.out
        have h2 := hS4.xlen
        have h3 := dueN_le l now
        rw [List.length_drop] at h2
        omega
      obtain ⟨xA4, xk4, rfl⟩ := ownsRow_slice t5
      have hbl4 : Below w.heap.size w w4 := bkeep HBL3.out t7 (Nat.le_refl _) (fun q hq => Nat.le_trans HB1.out.size (HGL.out q hq))
      have HBL4 := Lib.hid hbl4
      have hz4 := dueN_drop now l
      have HZ4 : Hid (((dueN (l.drop (dueN l now)) now : Nat) : Int) = 0) := by show _ = _; rw [hz4]; rfl
      have HLL4 : Hid ((l.drop (dueN l now)).length ≤ 1000000) := by show _ ≤ _; rw [List.length_drop]; omega
      have hx4l : X4.length ≤ 200 := by omega
      have wq : wrap64 ((X.length : Int) - (X4.length : Int)) = ((dueN l now : Nat) : Int) := by rw [hx4]; exact IntWalk.wrap64_in _ (by have := HDLE.out; omega)
      generalize l.drop (dueN l now) = l4 at *
      generalize hdd : dueN l now = dn at *
      clear t1 t2 t3 t4 t5 t6 t7 hS4 hbl4 hz4 hdd
      go_wp2_with fail
      refine (due_any b v4 l4 200 now w4 HS4.out.at_ HLL4.out).mono ?_
      rintro e w5 ⟨rfl, hb5⟩
      rw [HZ4.out]
      have HS5 := Lib.hid (HS4.out.below hb5)
      have HBL5 := Lib.hid (bmore HBL4.out hb5 HBL4.out.size)
      clear hb5
      go_wp2_with fail
      refine (same_any b v4 l4 200 now _ X4 w5 HS5.out).mono ?_
      rintro e w6 ⟨rfl, hb6⟩
      have HBL6 := Lib.hid (bmore HBL5.out hb6 HBL5.out.size)
      clear hb6
      go_wp2_with fail
      refine (awake_any w6).mono ?_
      rintro e w7 ⟨rfl, hb7⟩
      have HB7 := Lib.hid (bmore HBL6.out hb7 HBL6.out.size)
      clear hb7
      go_wp2
      go_ret
      exact ⟨rfl, HB7.out⟩
set_option maxRecDepth 100000 in
theorem pipeTakes_any (v : Value) (ops : List OpD) (now : Int) (w : World) (hx : CaseOk w v ops) :
    Calls Try.prog 5 #[v, .int .i64 now] w fun e w' => e = .returned (.bool true) ∧ Below w.heap.size w w' := by
  obtain ⟨A, k0, rfl, -⟩ := hx.reads.val
  cases hs : decide ((lightN ops : Int) ≤ 120) with
  | true => exact pipeTakes_yes now A k0 ops w hx hs
  | false =>
    have HSM := Lib.hid (small_any _ ops w hx)
    obtain ⟨n, hnl⟩ : ∃ n, n = ops.length := ⟨_, rfl⟩
    rw [← hnl] at HSM ⊢
    rw [hs] at HSM
    clear hnl hx hs
    go_enter Try.func5, Try.ntmps5
    go_wp2_with fail
    refine HSM.out.mono ?_
    rintro e w1 ⟨rfl, hb1⟩
    have HB1 := Lib.hid hb1
    clear hb1
    go_wp2_with fail
    refine (awake_any _).mono ?_
    rintro e w2 ⟨rfl, hb2⟩
    have HB2 := Lib.hid (bmore HB1.out hb2 HB1.out.size)
    clear hb2
    go_wp2
    go_ret
    exact ⟨rfl, HB2.out⟩
end Go.Proofs.Ytijmmmgmpfhgoaa
