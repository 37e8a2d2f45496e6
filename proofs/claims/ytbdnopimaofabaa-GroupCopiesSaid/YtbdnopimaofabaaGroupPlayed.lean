/- group: played. -/
import Derived.Test.YtbdnopimaofabaaGroupRef
import Derived.Test.YtbdnopimaofabaaBlk
namespace Go.Proofs.Ytbdnopimaofabaa
open Go.RowKit
set_option linter.unusedVariables false
set_option linter.unusedSimpArgs false

theorem GrpAt.neAsk {w : World} {b g c : Nat} {l : List One} {j lv : Int} (h : GrpAt w b g c l j lv) {base : Nat} {v : Value} {n : Nat} {xs : List Value} (ho : w.ownsRow base 47 3 v n xs) {g' : Nat} (hv : v.ownBlock = some g') : g' ≠ b ∧ g' ≠ g := by
  rcases ho.2 with ⟨rfl, _⟩ | ⟨g2, cap, cur, rfl, hg, hh, _⟩
  · cases hv
  · cases hv
    refine ⟨fun e => ?_, fun e => ?_⟩
    · subst e
      have := h.str
      unfold Blk at this
      rw [hh] at this
      cases this
    · subst e
      rcases h.row.2 with ⟨hv, _⟩ | ⟨g3, cap3, cur3, hv, hg3, hh3, _⟩
      · cases hv
      · cases hv
        rw [hh] at hh3
        cases hh3

structure PInv (n : Nat) (j lv : Int) (l : List One) (x : List AskD) (k : Nat) : Prop where
  len : l.length = n
  at_ : ∀ r : Nat, r < n → l[r]? = some (rfold j lv r x)
  ok : AsksOk x
  xlen : x.length ≤ k
theorem PInv.zero (n : Nat) (j lv : Int) : PInv n j lv (List.replicate n one0) [] 0 :=
  ⟨List.length_replicate, fun r hr => by rw [List.getElem?_replicate, if_pos hr]; rfl, fun a ha => by simp at ha, by simp⟩
theorem PInv.stay {n : Nat} {j lv : Int} {l : List One} {x : List AskD} {k : Nat} (h : PInv n j lv l x k) : PInv n j lv l x (k + 1) := ⟨h.len, h.at_, h.ok, Nat.le_succ_of_le h.xlen⟩
theorem PInv.take {n : Nat} {j lv : Int} {l : List One} {x : List AskD} {k : Nat} (h : PInv n j lv l x k) (r : Nat) (level now : Int) (hr : r < n) (h0 : 0 ≤ now ∧ now ≤ 1099511627776) :
    PInv n j lv (l.set r (stp j lv (rfold j lv r x) level now)) (x ++ [⟨r, level, now⟩]) (k + 1) := by
  refine ⟨by rw [List.length_set]; exact h.len, fun r' hr' => ?_, fun a ha => ?_, by rw [List.length_append]; have := h.xlen; simp; omega⟩
  · rw [rfold_snoc]
    unfold rstep
    by_cases e : r' = r
    · subst e
      rw [if_pos rfl, List.getElem?_set_self (by rw [h.len]; exact hr)]
    · rw [if_neg (by simp only; omega), List.getElem?_set_ne (fun e' => e e'.symm)]
      exact h.at_ r' hr'
  · rcases List.mem_append.1 ha with ha | ha
    · exact h.ok a ha
    · simp at ha; subst ha; exact h0

set_option maxRecDepth 100000 in
set_option maxHeartbeats 1000000 in
theorem played_any (n : Nat) (j lv : Int) (v : Value) (asks : List AskD) (w : World) (h : Asks w v asks) (hc : CaseR n j lv asks.length) :
    Calls Try.prog 9 #[.agg #[.int .i64 n, .int .i64 j, .int .i64 lv, v]] w fun e w' => ∃ b g l A cc x, e = .returned (.tuple #[.pointer (some ⟨b, 0, none⟩), .slice A x.length cc]) ∧ GrpAt w' b g n l j lv ∧ PInv n j lv l x asks.length ∧
      w'.ownsRow w.heap.size 47 3 (.slice A x.length cc) x.length (x.flatMap askCells) ∧ Below w.heap.size w w' ∧ w.heap.size ≤ b ∧ w.heap.size ≤ g := by
  obtain ⟨A, c, rfl, -⟩ := h.val
  obtain ⟨i0, hi, hz0, hz1, hz2⟩ := info_parts info_ask
  have hok := hc.1
  have hlen := hc.2
  obtain ⟨k1, k2, k3, k4, k5, k6⟩ := hc.1
  have HZ := Blk.new w #[.int .i64 (n : Int), .int .i64 j, .int .i64 lv, .slice A asks.length c] 24
  have hb0 := (Below.refl w.heap.size w).alloc (Nat.le_refl _) (.cells #[.int .i64 (n : Int), .int .i64 j, .int .i64 lv, .slice A asks.length c] 24)
  have HH0 : Asks (w.alloc (.cells #[.int .i64 (n : Int), .int .i64 j, .int .i64 lv, .slice A asks.length c] 24)) (.slice A asks.length c) asks := Reads.below h hb0
  have HB0 := Lib.hid hb0
  have HA0 := Lib.hid HH0
  have HZ0 := Lib.hid HZ
  have hsz : w.heap.size < (w.alloc (.cells #[.int .i64 (n : Int), .int .i64 j, .int .i64 lv, .slice A asks.length c] 24)).heap.size := by simp
  clear h hb0 HH0 HZ hc
  go_enter Try.func9, Try.ntmps9
  go_wp2_with fail
  generalize w.alloc (.cells #[.int .i64 (n : Int), .int .i64 j, .int .i64 lv, .slice A asks.length c] 24) = wz at *
  have HOK := Lib.hid hok
  clear hok
  refine (new_yes n j lv _ HOK.out).mono ?_
  rintro e w1 ⟨b, g, rfl, hg1, hbb, hgg, hb1⟩
  obtain ⟨z0, z1, z2, z3⟩ := blk4 (HZ0.out.below hb1)
  have HG1 := Lib.hid hg1
  have HB1 := Lib.hid hb1
  clear hg1 hb1
  go_wp2_with fail
  clear z0 z1 z2 z3
  go_loopw [6, 8, 9, 29] (fun xv _ _ i wr => ∃ (k : Nat) (l : List One) (x : List AskD) (A : Option Addr) (cc : Nat), k ≤ asks.length ∧ i = .int .i64 k ∧ xv = .slice A x.length cc ∧ Hid (GrpAt wr b g n l j lv) ∧ Hid (PInv n j lv l x k) ∧ Hid (wr.ownsRow wz.heap.size 47 3 (.slice A x.length cc) x.length (x.flatMap askCells)) ∧ Below wz.heap.size wz wr) (fun _ _ _ i _ => asks.length - (intOf i).toNat)
  case atStart => exact ⟨0, List.replicate n one0, [], none, 0, by omega, rfl, rfl, HG1, PInv.zero n j lv, World.ownsRow_nil _ _ _ _, HB1.out⟩
  case round =>
    obtain ⟨k, l, x, Ax, cc, hk, rfl, rfl, HG, HI, HX, hb⟩ := hrel
    have hs := hb.size
    have hxl := HI.out.xlen
    by_cases hlt : k < asks.length
    · have ha := List.getElem?_eq_getElem hlt
      obtain ⟨a, hae⟩ : ∃ a, a = asks[k] := ⟨_, rfl⟩
      rw [← hae] at ha
      obtain ⟨ga, p, c', he, a0, a1, a2⟩ := Asks.at (Reads.below HA0.out hb) ha
      cases he
      obtain ⟨z0, z1, z2, z3⟩ := blk4 (HZ0.out.below hb)
      have hlw : w.heap.size < wr.heap.size := by omega
      have hnw : ¬ (w.heap.size = wr.heap.size) := by omega
      have hnw2 : ¬ (wr.heap.size = w.heap.size) := by omega
      have i1 : (0 : Int) ≤ (k : Int) := by omega
      have i2 : (k : Int) < (asks.length : Int) := by omega
      clear ha hae
      have hbA := hb.alloc hs (.cells #[.int .i64 a.r, .int .i64 a.level, .int .i64 a.now] 47)
      have hA1 : Asks (wr.alloc (.cells #[.int .i64 a.r, .int .i64 a.level, .int .i64 a.now] 47)) (.slice Ax x.length cc) x := Reads.alloc (Reads.of_owns HX.out) _
      have hX1 := HX.out.alloc (.cells #[.int .i64 a.r, .int .i64 a.level, .int .i64 a.now] 47)
      have hG1 : GrpAt (wr.alloc (.cells #[.int .i64 a.r, .int .i64 a.level, .int .i64 a.now] 47)) b g n l j lv := HG.out.keep ((Keep.refl (fun _ => False) _).alloc _) id id
      have hN := Blk.new wr #[.int .i64 a.r, .int .i64 a.level, .int .i64 a.now] 47
      have hsN : wr.heap.size < (wr.alloc (.cells #[.int .i64 a.r, .int .i64 a.level, .int .i64 a.now] 47)).heap.size := by simp
      have HhbA := Lib.hid hbA
      have HhA1 := Lib.hid hA1
      have HhX1 := Lib.hid hX1
      have HhG1 := Lib.hid hG1
      have HhN := Lib.hid hN
      clear hbA hA1 hX1 hG1 hN
      go_wp2_with fail
      refine (wrong_any j lv _ x n a _ HhA1.out (by omega)).mono ?_
      rintro e w2 ⟨rfl, hb2⟩
      have HN2 := Lib.hid (HhN.out.below hb2)
      have HX2 := Lib.hid (ownsRow_keep HhX1.out (Keep.none hb2) (fun _ _ => id))
      have HG2 := Lib.hid (HhG1.out.below hb2)
      have HQ2 := Lib.hid (bmore HhbA.out hb2 HhbA.out.size)
      have hs2 := HQ2.out.size
      have hs22 := hb2.size
      clear z0 z1 z2 z3 a0 a1 a2 HhN HhX1 HhG1 HhbA HhA1 hb2 hnw hnw2
      obtain ⟨e0, e1, e2⟩ := blk3 HN2.out
      unfold wrongN
      obtain ⟨ar, al, an⟩ := a
      by_cases hok : AskOk n ar al an
      · rw [if_pos hok]
        obtain ⟨q0, q1, q2, q3, q4, q5⟩ := hok
        obtain ⟨r, rfl⟩ : ∃ r : Nat, ar = r := ⟨ar.toNat, by omega⟩
        have hr := HI.out.at_ r (by omega)
        have hok' : AskOk l.length r al an := by rw [HI.out.len]; exact ⟨q0, q1, q2, q3, q4, q5⟩
        by_cases hst : an < (rfold j lv r x).asked
        · rw [if_pos hst]
          have HAK := Lib.hid (ask_stale b g n l j lv al an r _ _ HG2.out hr hok' hst)
          clear hst hok' hr
          go_wp2_with fail
          refine HAK.out.mono ?_
          rintro e w3 ⟨rfl, rfl⟩
          go_wp2
          go_roundw
          case rel => exact ⟨k + 1, l, x, Ax, cc, by omega, by go_num, rfl, HG2, HI.out.stay, HX2, HQ2.out⟩
          case measure => simp [intOf]; omega
        · rw [if_neg hst]
          have HAK := Lib.hid (ask_yes b g n l j lv al an r _ _ HG2.out hr hok' (by omega) ⟨k3, k4, k5, k6⟩)
          have HI2 := Lib.hid (HI.out.take r al an (by omega) ⟨q4, q5⟩)
          clear hst hok' hr
          generalize l.set r (stp j lv (rfold j lv r x) al an) = l2 at *
          go_wp2_with fail
          refine HAK.out.mono ?_
          rintro e w3 ⟨rfl, hg3, k3'⟩
          have HG3 := Lib.hid hg3
          have HX3 := Lib.hid (ownsRow_keep HX2.out k3' (fun g' hg' => (HG2.out.neAsk HX2.out hg').2))
          have HN3 := Lib.hid (HN2.out.keep k3' (by have := HG.out.ltg; simp at hsN; omega))
          have HQ3 := Lib.hid (bkeep HQ2.out k3' (Nat.le_refl _) (fun k hk => by subst hk; exact hgg))
          have hs3 := HQ3.out.size
          clear hg3 k3' e0 e1 e2
          obtain ⟨e0, e1, e2⟩ := blk3 HN3.out
          go_wp2_with (at_builtin; refine wpList_app1 rfl _ _ 22 rfl wz.heap.size 47 i0 (.agg #[.int .i64 0, .int .i64 0, .int .i64 0]) 3 24 Try.underlying22 hi hz0 hz1 hz2 rfl (.slice Ax x.length cc) x.length _ rfl HX3.out #[.int .i64 (r : Int), .int .i64 al, .int .i64 an] 1 rfl rfl (by intro u hu; simp at hu; rcases hu with rfl | rfl | rfl <;> rfl) (by omega) (by omega) hs3 ?_; rintro A4 c4 w4 hown4 hk4 hg4 -)
          have HX4 : Hid (w4.ownsRow wz.heap.size 47 3 (.slice A4 (x ++ [(⟨r, al, an⟩ : AskD)]).length c4) (x ++ [(⟨r, al, an⟩ : AskD)]).length ((x ++ [(⟨r, al, an⟩ : AskD)]).flatMap askCells)) := by
            show World.ownsRow ..
            rw [List.length_append, List.flatMap_append]
            exact hown4
          have HL4 : Hid (x.length + 1 = (x ++ [(⟨r, al, an⟩ : AskD)]).length) := by show _ = _; rw [List.length_append]; rfl
          have HG4 := Lib.hid (HG3.out.keep hk4 (fun h => (HG3.out.neAsk HX3.out h).1 rfl) (fun h => (HG3.out.neAsk HX3.out h).2 rfl))
          have HQ4 := Lib.hid (bkeep HQ3.out hk4 (Nat.le_refl _) (fun k hk => (HX3.out.lt k hk).1))
          clear hown4 hk4 hg4
          go_wp2
          go_roundw
          case rel => exact ⟨k + 1, l2, x ++ [⟨r, al, an⟩], A4, c4, by omega, by go_num, by rw [HL4.out], HG4, HI2, HX4, HQ4.out⟩
          case measure => simp [intOf]; omega
      · rw [if_neg hok]
        have HAK := Lib.hid (ask_range b g n l j lv ar al an _ HG2.out (by rw [HI.out.len]; exact hok))
        clear hok
        go_wp2_with fail
        refine HAK.out.mono ?_
        rintro e w3 ⟨rfl, rfl⟩
        go_wp2
        go_roundw
        case rel => exact ⟨k + 1, l, x, Ax, cc, by omega, by go_num, rfl, HG2, HI.out.stay, HX2, HQ2.out⟩
        case measure => simp [intOf]; omega
    · obtain rfl : k = asks.length := by omega
      go_wp2
      go_ret2
      exact ⟨b, g, l, Ax, cc, x, rfl, HG.out, HI.out, ownsRow_base HX.out (by omega), HB0.out.trans (hb.mono (by omega)), by omega, by omega⟩
end Go.Proofs.Ytbdnopimaofabaa
