/- pipe: the law PipePlays. -/
import Derived.Test.YtijmmmgmpfhgoaaPipeSame
namespace Go.Proofs.Ytijmmmgmpfhgoaa
open Go.RowKit Go.Shelf
set_option linter.unusedVariables false
set_option linter.unusedSimpArgs false

/-- a pipe and a list that tell the same, all of the pipe's own made since w0 -/
structure PS (R : Nat → Prop) (w0 w : World) (b : Nat) (room : Int) (xv : Value) (X : List RM) : Prop where
  ex : ∃ G v l, SIn R w G b v l room xv X ∧ ∀ q, G q → w0.heap.size ≤ q
  bel : Below w0.heap.size w0 w
theorem PS.below {R : Nat → Prop} {w0 w w' : World} {b : Nat} {room : Int} {xv : Value} {X : List RM} (h : PS R w0 w b room xv X) (hb : Below w.heap.size w w') : PS R w0 w' b room xv X := by
  obtain ⟨⟨G, v, l, h1, h2⟩, h3⟩ := h
  exact ⟨⟨G, v, l, h1.below hb, h2⟩, bmore h3 hb h3.size⟩
theorem PS.step {R : Nat → Prop} {w0 w w' : World} {G : Nat → Prop} {b : Nat} {room : Int} {xv : Value} {X : List RM} (hR : ∀ q, R q → q < w.heap.size) (h3 : Below w0.heap.size w0 w) (hG : ∀ q, G q → w0.heap.size ≤ q) (hr : 0 ≤ room ∧ room ≤ 256) (k : StP R w w' G b room xv X) : PS R w0 w' b room xv X := by
  obtain ⟨⟨G', v', l', a1, a2, a3, a4, a5⟩, a6, a7⟩ := k
  exact ⟨⟨G', v', l', ⟨a1, fun q hq => (a2 q hq).2, a6, a3, a4, a5, hr, fun q hq => Nat.lt_of_lt_of_le (hR q hq) a7.size⟩, fun q hq => (a2 q hq).1.elim (hG q) (fun x => Nat.le_trans h3.size x)⟩, bkeep h3 a7 (Nat.le_refl _) hG⟩
theorem PS.new {R : Nat → Prop} {w0 w : World} {b : Nat} {room : Int} (h : PAt R w (fun q => w0.heap.size ≤ q) b (.slice none 0 0) [] room) (hb : Below w0.heap.size w0 w) (hr : 0 ≤ room ∧ room ≤ 256) (hR : ∀ q, R q → q < w.heap.size) : PS R w0 w b room (.slice none 0 0) [] :=
  ⟨⟨fun q => w0.heap.size ≤ q ∧ q < w.heap.size, .slice none 0 0, [], ⟨h.mono (fun q hq hl => ⟨hq, hl⟩), fun q hq => hq.2, World.ownsRow_nil _ _ _ _, fun g hg => (by cases hg), rfl, by simpa using hr.1, hr, hR⟩, fun q hq => hq.1⟩, hb⟩
set_option maxRecDepth 100000 in
set_option maxHeartbeats 2000000 in
theorem pipePlays_yes (room : Int) (A : Option Addr) (cc : Nat) (ops : List OpD) (w : World) (hx : CaseOk w (.slice A ops.length cc) ops) (hs : decide ((lightN ops : Int) ≤ 120) = true) (h1 : 1 ≤ room) (h2 : room ≤ 256) :
    Calls Try.prog 4 #[.int .i64 room, .slice A ops.length cc] w fun e w' => e = .returned (.bool true) ∧ Below w.heap.size w w' := by
  have HSM := Lib.hid (small_any _ ops w hx)
  rw [hs] at HSM
  have HX := Lib.hid hx
  have hn : ops.length ≤ 120 := by have := len_lightN ops; have := of_decide_eq_true hs; omega
  have HRR : Hid (0 ≤ room ∧ room ≤ 256) := ⟨by omega, h2⟩
  obtain ⟨n, hnl⟩ : ∃ n, n = ops.length := ⟨_, rfl⟩
  have HNL := Lib.hid hnl
  rw [← hnl] at hn HSM ⊢
  clear hnl hx hs
  go_enter Try.func4, Try.ntmps4
  go_wp2_with fail
  refine HSM.out.mono ?_
  rintro e w1 ⟨rfl, hb1⟩
  have HB1 := Lib.hid hb1
  clear hb1
  go_wp2_with fail
  refine (new_ok (R := NoR) room w1 h1 h2).mono ?_
  rintro e w2 ⟨b, rfl, hp2, hb2⟩
  have H0 := Lib.hid (PS.new hp2 hb2 HRR.out (fun _ h => h.elim))
  clear hp2 hb2
  go_wp2_with fail
  go_loopw [7, 9, 10, 36] (fun x _ _ i wr => ∃ k : Nat, k ≤ n ∧ i = .int .i64 k ∧ ∃ X, Hid (PS NoR w1 wr b room x X)) (fun _ _ _ i _ => n - (intOf i).toNat)
  case atStart => exact ⟨0, by omega, rfl, _, H0⟩
  case round =>
    obtain ⟨k, hk, rfl, X, HA⟩ := hrel
    by_cases hlt : k < n
    · obtain ⟨o, g, p, c', ho, hook, he, x0, x1, x2, x3⟩ := (HX.out.below (bmore HB1.out HA.out.bel HB1.out.size)).at (by rw [← HNL.out]; exact hlt)
      cases he
      obtain ⟨A', k', hv, -⟩ := hook.text.val
      rw [hv] at x3
      have HOK := Lib.hid hook
      have HV := Lib.hid hv
      have i1 : (0 : Int) ≤ (k : Int) := by omega
      have i2 : (k : Int) < (n : Int) := by omega
      have hbo : Below wr.heap.size wr (wr.alloc (.cells #[.int .i64 o.kind, .int .i64 o.at', .int .i64 o.n, .slice A' o.text.length k'] 35)) := (Below.refl _ _).alloc (Nat.le_refl _) _
      have HBo := Lib.hid (Blk.new wr #[.int .i64 o.kind, .int .i64 o.at', .int .i64 o.n, .slice A' o.text.length k'] 35)
      have HA1 := Lib.hid (HA.out.below hbo)
      have HT1 : Hid (Reads (wr.alloc (.cells #[.int .i64 o.kind, .int .i64 o.at', .int .i64 o.n, .slice A' o.text.length k'] 35)) 1 (.slice A' o.text.length k') o.text.length (u8s o.text)) := by
        have h := (hook.below hbo).text
        rw [hv] at h
        exact h
      have HLN : Hid (o.text.length ≤ 1048576) := hook.len
      obtain ⟨⟨G, v, l, hSI, hGlo⟩, hbel⟩ := HA.out
      have HSI1 := Lib.hid (hSI.below hbo)
      have HGB : Hid (¬ G wr.heap.size) := fun hg => by have := hSI.lt _ hg; omega
      have HGL := Lib.hid hGlo
      clear hbo ho hook hv hSI hGlo hbel HOK HV
      go_wp2_with fail
      generalize wr.alloc (.cells #[.int .i64 o.kind, .int .i64 o.at', .int .i64 o.n, .slice A' o.text.length k'] 35) = wo at *
      refine (step_any b v l room o.kind o.at' o.n _ X A' o.text.length k' o.text wo HSI1.out HT1.out rfl HLN.out).mono ?_
      rintro e w3 ⟨xv', X', rfl, hst⟩
      have HA3 := Lib.hid (PS.step (fun _ h => h.elim) HA1.out.bel HGL.out HRR.out hst)
      have HBo3 := Lib.hid (HBo.out.keep hst.kp HGB.out)
      clear hst x0 x1 x2 x3
      obtain ⟨x0, x1, x2, x3⟩ := blk4' HBo3.out
      go_wp2_with fail
      obtain ⟨⟨G3, v3, l3, hS3, -⟩, -⟩ := HA3.out
      refine (same_any b v3 l3 room o.at' _ X' _ hS3).mono ?_
      rintro e w4 ⟨rfl, hb4⟩
      have HA4 := Lib.hid (HA3.out.below hb4)
      clear hb4 hS3
      go_wp2_with fail
      go_roundw
      case rel => exact ⟨k + 1, by omega, by go_num, X', HA4⟩
      case measure => simp [intOf]; omega
    · obtain rfl : k = n := by omega
      obtain ⟨wb, hwb⟩ : ∃ wb : World, wb = wr := ⟨_, rfl⟩
      rw [← hwb] at HA ⊢
      clear hwb
      go_wp2_with fail
      refine (awake_any wb).mono ?_
      rintro e w7 ⟨rfl, hb7⟩
      have HB7 := Lib.hid (bmore HB1.out (bmore HA.out.bel hb7 HA.out.bel.size) HB1.out.size)
      clear hb7
      go_wp2
      go_ret
      exact ⟨rfl, HB7.out⟩
set_option maxRecDepth 100000 in
theorem pipePlays_no (room : Int) (A : Option Addr) (cc : Nat) (ops : List OpD) (w : World) (hx : CaseOk w (.slice A ops.length cc) ops) (h : decide ((lightN ops : Int) ≤ 120) = false ∨ room < 1 ∨ 256 < room) :
    Calls Try.prog 4 #[.int .i64 room, .slice A ops.length cc] w fun e w' => e = .returned (.bool true) ∧ Below w.heap.size w w' := by
  have HSM := Lib.hid (small_any _ ops w hx)
  have hc : decide ((lightN ops : Int) ≤ 120) = false ∨ (decide ((lightN ops : Int) ≤ 120) = true ∧ room < 1) ∨ (decide ((lightN ops : Int) ≤ 120) = true ∧ 1 ≤ room ∧ 256 < room) := by
    cases hd : decide ((lightN ops : Int) ≤ 120) with
    | false => exact .inl rfl
    | true => rw [hd] at h; rcases h with h | h | h
              · cases h
              · exact .inr (.inl ⟨rfl, h⟩)
              · exact .inr (.inr ⟨rfl, by omega, h⟩)
  obtain ⟨n, hnl⟩ : ∃ n, n = ops.length := ⟨_, rfl⟩
  rw [← hnl] at HSM ⊢
  clear hnl hx h
  rcases hc with g | ⟨g, g'⟩ | ⟨g, g', g''⟩
  all_goals
    rw [g] at HSM
    clear g
    go_enter Try.func4, Try.ntmps4
    go_wp2_with fail
    refine HSM.out.mono ?_
    rintro e w1 ⟨rfl, hb1⟩
    have HB1 := Lib.hid hb1
    clear hb1
    go_wp2_with fail
    refine (awake_any _).mono ?_
    rintro e w2 ⟨rfl, hb2⟩
    have HB2 := Lib.hid (bmore HB1.out hb2 HB1.out.size)
    clear hb2
    go_wp2
    go_ret
    exact ⟨rfl, HB2.out⟩
theorem pipePlays_any (room : Int) (v : Value) (ops : List OpD) (w : World) (hx : CaseOk w v ops) :
    Calls Try.prog 4 #[.int .i64 room, v] w fun e w' => e = .returned (.bool true) ∧ Below w.heap.size w w' := by
  obtain ⟨A, k0, rfl, -⟩ := hx.reads.val
  cases hs : decide ((lightN ops : Int) ≤ 120) with
  | false => exact pipePlays_no room A k0 ops w hx (.inl hs)
  | true =>
    rcases (by omega : room < 1 ∨ 256 < room ∨ (1 ≤ room ∧ room ≤ 256)) with g | g | ⟨g, g'⟩
    · exact pipePlays_no room A k0 ops w hx (.inr (.inl g))
    · exact pipePlays_no room A k0 ops w hx (.inr (.inr g))
    · exact pipePlays_yes room A k0 ops w hx hs g g'

end Go.Proofs.Ytijmmmgmpfhgoaa
