/- simnet: awake. -/
import Derived.Test.YtlodiibmofeikaaQNetHole
import Derived.Test.YtlodiibmofeikaaQNetSend
import Derived.Test.YtlodiibmofeikaaQNetLaw
namespace Go.Proofs.Ytlodiibmofeikaa
open Go.RowKit Go.Shelf
attribute [local go_sem] Oper.semAt_some
set_option linter.unusedVariables false
set_option linter.unusedSimpArgs false

theorem str_ab : strOfNums [97, 98] = { data := #[97, 98] } := by rfl
def lA : List One := (List.replicate 2 one0).set 0 (stp 0 0 one0 0 1)
theorem mem_lA : mem lA 0 3 lA.length = [((0 : Nat) : Int)] := by decide
theorem field_sent (a b c d e f : Int) (w : World) : (Instr.field 35 (.agg #[.int .i64 a, .int .i64 b, .int .i64 c, .int .i64 d, .int .i64 e, .int .i64 f]) 0).run Try.prog w = .ok (.int .i64 a) w := by kernel_rfl
set_option maxRecDepth 100000 in
set_option maxHeartbeats 8000000 in
theorem awake_any (w : World) : Calls Try.prog 7 #[] w fun e w' => e = .returned (.bool true) ∧ Below w.heap.size w w' := by
  have kc := fun (w : World) (C : Array Value) (n c : Nat) => Lib.run_convert_bytes_const (P := Try.prog) w 23 5 C n c Try.underlying23 Try.underlying5
  have HNY := Lib.hid (netNew_ok 2 2 4 0 0 none 0 [] w ⟨by omega, by omega, by omega, by omega, by omega⟩ (Reads.nil w 2) (by simp))
  refine callsIn_wide.1 (callsIn_of_wp_marks (F := Fence.wide) (n := 9) Try.func7 rfl trivial ?_)
  rw [wpIn_wide]
  simp only [Try.ntmps7, List.size_toArray, List.length_cons, List.length_nil, Nat.reduceAdd, Nat.reduceSub, Array.replicate_succ, Array.replicate_zero, List.push_toArray, List.append_toArray, List.nil_append, List.cons_append]
  go_wp2_with fail
  refine HNY.out.mono ?_
  rintro e w1 ⟨nb, rfl, ⟨col, gb, gg, pv, P, fv, hnt, hpl, hnp, hco⟩, hb1⟩
  have HB1 := Lib.hid hb1
  have HNT := Lib.hid hnt
  have HCO := Lib.hid hco
  obtain ⟨p, hp⟩ : ∃ p, P[0]? = some p := ⟨_, List.getElem?_eq_getElem (by omega)⟩
  have HP := Lib.hid hp
  have HP0 : Hid (p.l = []) := hnp p (List.mem_of_getElem? hp)
  have HPL : Hid (P.length ≤ 1000) := by show _ ≤ _; omega
  have HAS := Lib.hid (ask_yes gb gg 2 (List.replicate 2 one0) 0 0 0 1 0 one0 w1 hnt.grp rfl ⟨by simp, by simp, by omega, by omega, by omega, by omega⟩ (by decide) ⟨by omega, by omega, by omega, by omega⟩)
  clear hnt hpl hnp hp hb1 hco HNY
  obtain ⟨n0, n1, n2, n3, n4, -⟩ := blk11 HNT.out.str
  go_wp2_with fail
  refine HAS.out.mono ?_
  rintro e w2 ⟨rfl, hg2, hk2⟩
  have HN2 := Lib.hid (HNT.out.ask (l' := lA) hg2 hk2)
  have HB2 := Lib.hid (bkeep HB1.out hk2 (Nat.le_refl _) (fun q e => HCO.out q (by rw [e, HNT.out.c3]; decide)))
  clear hg2 hk2 n0 n1 n2 n3 n4 HNT HB1 HAS
  have hb3 : Below w2.heap.size w2 (w2.alloc (.cells #[.int .u8 97, .int .u8 98] 5 (2, 3))) := (Below.refl _ w2).alloc (Nat.le_refl _) _
  have HN3 := Lib.hid (HN2.out.below hb3)
  have HB3 := Lib.hid (bmore HB2.out hb3 HB2.out.size)
  have HR3 : Hid (Reads (w2.alloc (.cells #[.int .u8 97, .int .u8 98] 5 (2, 3))) 1 (.slice (some ⟨w2.heap.size, 0, none⟩) 2 2) 2 (u8s [97, 98])) := reads_newm w2 #[.int .u8 97, .int .u8 98] 5 (2, 3) 2 rfl (by omega)
  have HS3 := Lib.hid (send_one HN3.out 0 3 0 p HP.out mem_lA (by show lA.length ≤ 64; decide) HPL.out (by omega) (some ⟨w2.heap.size, 0, none⟩) 2 [97, 98] (by decide) HR3.out (fun g hg => by cases hg; exact HN2.out.top _ (Nat.le_refl _))
    (by omega) (by rw [HP0.out]; simp) ⟨by decide, by decide, by decide, by decide, by decide, by decide⟩ (by simp) (by omega) (by omega) (by omega) (.inl (by decide)))
  go_wp2_with fail
  generalize w2.alloc (.cells #[.int .u8 97, .int .u8 98] 5 (2, 3)) = w3 at *
  refine HS3.out.mono ?_
  rintro e w4 ⟨rfl, r4⟩
  obtain ⟨⟨p0, col4, p4, s4, hp0, hn4, hc4, h4⟩, hk4⟩ := r4
  have H4 : Hid (∃ m, p4.l = [m] ∧ m.due = 5 ∧ m.bs = [97, 98]) := by
    have e0 : p0 = p := by have h1 := HP.out; rw [h1] at hp0; exact (Option.some.inj hp0).symm
    subst e0
    rcases h4 with ⟨h4, -⟩ | ⟨-, -, m, h5, h6, h7⟩
    · rw [HP0.out] at h4
      exact absurd (by decide) h4
    · rw [HP0.out] at h5
      exact ⟨m, h5, h6, h7⟩
  have HSN : Hid (s4.sent = 1) := by
    rcases h4 with ⟨-, -, h4⟩ | ⟨-, h4, -⟩
    · rw [h4]; rfl
    · rw [h4]; rfl
  have HC4 : Hid (∀ x, col4 x ≠ 0 → w.heap.size ≤ x) := fun x hx => (hc4 x hx).elim (HCO.out x) (fun h => Nat.le_trans HB3.out.size h)
  have HN4 := Lib.hid hn4
  have HB4 := Lib.hid (bkeep HB3.out hk4 (Nat.le_refl _) (fun q e => HCO.out q e))
  clear hp0 hn4 hc4 h4 hk4 HS3 HR3 HN3 HB3 HN2 HB2
  have HP4 : Hid ((P.set 0 p4)[0]? = some p4) := by
    show _ = _
    have := (List.getElem?_eq_some_iff.1 HP.out).1
    rw [List.getElem?_set_self this]
  have HPL4 : Hid ((P.set 0 p4).length ≤ 1000) := by show _ ≤ _; rw [List.length_set]; exact HPL.out
  clear HP HP0 HPL HCO hb3
  generalize P.set 0 p4 = P4 at *
  clear P
  have hb5 : Below w4.heap.size w4 (w4.alloc (.cells #[.string { data := #[] }] 9)) := (Below.refl _ w4).alloc (Nat.le_refl _) _
  have HN5 := Lib.hid (HN4.out.below hb5)
  have HB5 := Lib.hid (bmore HB4.out hb5 HB4.out.size)
  have HG5 := Lib.hid (Blk.new w4 #[.string { data := #[] }] 9)
  have HL5 : Hid (∀ q, col4 q ≠ 0 → q < w4.heap.size) := fun q hq => HN4.out.lt hq
  have HW4 : Hid (w.heap.size ≤ w4.heap.size) := HB4.out.size
  clear hb5
  go_wp2_with fail
  generalize w4.alloc (.cells #[.string { data := #[] }] 9) = w5 at *
  clear HN4 HB4
  generalize w4.heap.size = pG at *
  refine (netTake_yes HN5.out 0 p4 4 HP4.out (by show 0 < lA.length; decide) HPL4.out).mono ?_
  rintro e w6 ⟨rfl, hpb, hpn, hb6⟩
  have HPB := Lib.hid hpb
  have HPN := Lib.hid hpn
  have HN6 := Lib.hid (HN5.out.below hb6)
  have HG6 := Lib.hid (HG5.out.below hb6)
  have HB6 := Lib.hid (bmore HB5.out hb6 HB5.out.size)
  have HZ5 : Hid (pG < w5.heap.size) := HG5.out.lt
  have HZ6 : Hid (w5.heap.size + 1 < w6.heap.size) := hpn.lt
  clear hpb hpn hb6 HN5 HG5 HB5
  have HPP := Lib.hid (HN6.out.pipes 0 p4 HP4.out)
  have HSEQ := Lib.hid (take_seq (9 - 1) (by omega) w5.heap.size (w5.heap.size + 1) p4.b p4.v.ownBlock p4.l 4 4 (fun x => col4 x = 6 + 0) (fun q => q = pG ∨ w6.heap.size ≤ q) w6
    (fun q hq => by have hq : col4 q = 6 + 0 ∨ col4 q = 5 := hq; have h1 := HL5.out q (by omega); exact ⟨fun e => by have := HZ5.out; have := HZ6.out; omega, by have := HZ5.out; have := HZ6.out; omega⟩) HPP.out.gb HPP.out.gv
    ⟨fun e => by have e' : col4 w5.heap.size = 6 + 0 := e; have := HL5.out _ (show col4 w5.heap.size ≠ 0 by omega); have := HZ5.out; omega, fun e => by have := HZ5.out; have := HZ6.out; omega⟩ ⟨fun e => by have e' : col4 (w5.heap.size + 1) = 6 + 0 := e; have := HL5.out _ (show col4 (w5.heap.size + 1) ≠ 0 by omega); have := HZ5.out; omega, fun e => by have := HZ5.out; have := HZ6.out; omega⟩ (by obtain ⟨m, h1, -⟩ := H4.out; rw [h1]; simp) HPB.out HPN.out ⟨p4.v, HPP.out, rfl⟩)
  have HDN : Hid (dueN p4.l 4 = 0) := by
    obtain ⟨m, h1, h2, -⟩ := H4.out
    show _ = _
    unfold dueN
    rw [h1, List.takeWhile_cons_of_neg (by simp [h2])]
    rfl
  have HT6 : Hid (∀ q, q = p4.b ∨ p4.v.ownBlock = some q → col4 q = 6) := fun q hq => hq.elim (fun e => by rw [e]; exact HPP.out.gb) (fun e => HPP.out.gv q e)
  have HH6 := Lib.hid (HN6.out.hole 0)
  go_wp2_with fail
  refine (wpIn_wide (n := 9)).1 ?_
  refine' wpIn_rangeOwnY (F := Fence.wide) (n := 9) rfl (by omega) (gf := 46) (lb := #[.pointer (some ⟨w5.heap.size, 0, none⟩), .pointer (some ⟨w5.heap.size + 1, 0, none⟩)]) rfl trivial (enters_of Try.func46 (by kernel_rfl) rfl)
    HSEQ.out (fun pre x N W l o o' h hl ho hc => h.turn ho hc) (fun h k => h.trans k) (fun W l o o' hl ho hc => keepC_turn ho hc _)
    (fun q hq => by have h1 := HZ5.out; have h2 := HZ6.out; have h3 := HL5.out q (by rw [HT6.out q hq]; decide); omega) (fun _ => rfl)
    (fun xs W l o o' h hl ho hc => ⟨h.1.turn ho hc, h.2⟩) (fun pre W l o o' h hl ho hc => ⟨h.1.turn ho hc, h.2⟩)
    (fun pre W => Blk W pG #[.string { data := #[] }] 9 ∧ Below w.heap.size w W ∧ NetHole W col4 0 nb ⟨gb, gg, 2, lA, 0, 0⟩ 2 4 pv P4 fv [] (usedN [] 0) s4) (fun _ _ _ => False)
    (fun pre W l o o' h hl ho hc => ⟨blk_turn h.1 ho hc, below_turn h.2.1 (Nat.le_trans HB6.out.size hl), h.2.2.turn ho hc⟩) (fun c pre W l o o' h _ _ _ => h)
    (fun pre A B h k => ⟨h.1.keep k (fun e => by have := HL5.out pG (by rw [HT6.out _ e]; decide); omega), bkeep h.2.1 k (Nat.le_refl _) (fun q hq => HC4.out q (by rw [HT6.out _ hq]; decide)), h.2.2.keep k (fun x _ hx e => hx (by rw [HT6.out _ e]))⟩)
    ⟨HG6.out, HB6.out, HH6.out⟩ _ ?assign ?body ?done ?stop
  case assign =>
    intro l x W K hK
    gi_wp2
    exact hK
  case body =>
    rintro l pre x W0 W - - - hy
    obtain ⟨⟨m, hm, hmd, -⟩, -⟩ := hy
    obtain ⟨m', h1, h2, -⟩ := H4.out
    rw [h1] at hm
    rcases pre with _ | ⟨a, t⟩
    · simp at hm; rw [← hm, h2] at hmd; omega
    · simp at hm
  case stop =>
    rintro D c pre W hD hSp hx hK
    exact hx.elim
  case done =>
    rintro D xs W hD ⟨hT, hxs⟩ ⟨hkg, hbw, hnh⟩ hK
    rw [HDN.out] at hxs
    rw [hxs] at hT
    obtain ⟨v7, hp7, hv7⟩ := hT
    rw [List.drop_zero] at hp7
    have HN7 := Lib.hid (hnh.fill HP4.out hp7)
    have HP7 : Hid ((P4.set 0 ⟨p4.b, v7, p4.l⟩)[0]? = some ⟨p4.b, v7, p4.l⟩) := by
      show _ = _
      have := (List.getElem?_eq_some_iff.1 HP4.out).1
      rw [List.getElem?_set_self this]
    have HPL7 : Hid ((P4.set 0 ⟨p4.b, v7, p4.l⟩).length ≤ 1000) := by show _ ≤ _; rw [List.length_set]; exact HPL4.out
    have HG7 := Lib.hid hkg
    have HB7 := Lib.hid hbw
    have HD7 : Hid (Dfd D W) := hK
    have HGD : Hid (pG < D) := by show _ < _; have h1 := HZ5.out; have h2 := HZ6.out; omega
    have HL7 := Lib.hid HL5.out
    obtain ⟨m, hm, hmd, hmb⟩ := H4.out
    have HM := Lib.hid hm
    have HMD := Lib.hid hmd
    have HMB := Lib.hid hmb
    clear hp7 hv7 hkg hbw hnh hK hxs hD hm hmd hmb HN6 HG6 HB6 HZ5 HZ6 HPB HPN HPP HSEQ HDN HT6 HH6 HP4 HPL4 H4
    generalize P4.set 0 ⟨p4.b, v7, p4.l⟩ = P7 at *
    generalize p4.b = pb at *
    generalize p4.l = pl at *
    clear P4 p4
    go_wp2_with fail
    refine (netTake_yes HN7.out 0 ⟨pb, v7, pl⟩ 5 HP7.out (by show 0 < lA.length; decide) HPL7.out).mono ?_
    rintro e w8 ⟨rfl, hpb, hpn, hb8⟩
    have HPB := Lib.hid hpb
    have HPN := Lib.hid hpn
    have HN8 := Lib.hid (HN7.out.below hb8)
    have HG8 := Lib.hid (HG7.out.below hb8)
    have HB8 := Lib.hid (bmore HB7.out hb8 HB7.out.size)
    have HD8 := Lib.hid (HD7.out.keep (Keep.none hb8) id)
    have HZ5 : Hid (D < W.heap.size) := HD7.out.lt
    have HZ6 : Hid (W.heap.size + 1 < w8.heap.size) := hpn.lt
    clear hpb hpn hb8 HN7 HG7 HB7 HD7
    have HPP := Lib.hid (HN8.out.pipes 0 _ HP7.out)
    have HSEQ := Lib.hid (take_seq (9 - 1) (by omega) W.heap.size (W.heap.size + 1) pb v7.ownBlock pl 4 5 (fun x => col4 x = 6 + 0) (fun q => q = pG ∨ w8.heap.size ≤ q) w8
      (fun q hq => by have hq : col4 q = 6 + 0 ∨ col4 q = 5 := hq; have h1 := HL7.out q (by omega); exact ⟨fun e => by have := HZ5.out; have := HZ6.out; have := HGD.out; omega, by have := HZ5.out; have := HZ6.out; have := HGD.out; omega⟩) HPP.out.gb HPP.out.gv
      ⟨fun e => by have e' : col4 W.heap.size = 6 + 0 := e; have := HL7.out _ (show col4 W.heap.size ≠ 0 by omega); have := HZ5.out; have := HGD.out; omega, fun e => by have := HZ5.out; have := HZ6.out; have := HGD.out; omega⟩ ⟨fun e => by have e' : col4 (W.heap.size + 1) = 6 + 0 := e; have := HL7.out _ (show col4 (W.heap.size + 1) ≠ 0 by omega); have := HZ5.out; have := HGD.out; omega, fun e => by have := HZ5.out; have := HZ6.out; have := HGD.out; omega⟩ (by rw [HM.out]; simp) HPB.out HPN.out ⟨v7, HPP.out, rfl⟩)
    have HDN : Hid (dueN pl 5 = 1) := by
      show _ = _
      unfold dueN
      rw [HM.out, List.takeWhile_cons_of_pos (by simp [HMD.out])]
      rfl
    have HT8 : Hid (∀ q, q = pb ∨ v7.ownBlock = some q → col4 q = 6) := fun q hq => hq.elim (fun e => by rw [e]; exact HPP.out.gb) (fun e => HPP.out.gv q e)
    have HH8 := Lib.hid (HN8.out.hole 0)
    go_wp2_with fail
    refine (wpIn_wide (n := 9)).1 ?_
    refine' wpIn_rangeOwnY (F := Fence.wide) (n := 9) rfl (by omega) (gf := 46) (lb := #[.pointer (some ⟨W.heap.size, 0, none⟩), .pointer (some ⟨W.heap.size + 1, 0, none⟩)]) rfl trivial (enters_of Try.func46 (by kernel_rfl) rfl)
      HSEQ.out (fun pre x N W l o o' h hl ho hc => h.turn ho hc) (fun h k => h.trans k) (fun W l o o' hl ho hc => keepC_turn ho hc _)
      (fun q hq => by have h0 := HGD.out; have h1 := HZ5.out; have h2 := HZ6.out; have h3 := HL7.out q (by rw [HT8.out q hq]; decide); omega) (fun _ => rfl)
      (fun xs W l o o' h hl ho hc => ⟨h.1.turn ho hc, h.2⟩) (fun pre W l o o' h hl ho hc => ⟨h.1.turn ho hc, h.2⟩)
      (fun pre W => Blk W pG #[.string (if pre.length = 0 then { data := #[] } else { data := #[97, 98] })] 9 ∧ Below w.heap.size w W ∧ NetHole W col4 0 nb ⟨gb, gg, 2, lA, 0, 0⟩ 2 4 pv P7 fv [] (usedN [] 0) s4 ∧ Dfd D W) (fun _ _ _ => False)
      (fun pre W l o o' h hl ho hc => ⟨blk_turn h.1 ho hc, below_turn h.2.1 (Nat.le_trans HB8.out.size hl), h.2.2.1.turn ho hc, h.2.2.2.turn (by have h1 := HZ5.out; have h2 := HZ6.out; omega)⟩) (fun c pre W l o o' h _ _ _ => h)
      (fun pre A B h k => ⟨h.1.keep k (fun e => by have := HL7.out pG (by rw [HT8.out _ e]; decide); omega), bkeep h.2.1 k (Nat.le_refl _) (fun q hq => HC4.out q (by rw [HT8.out _ hq]; decide)), h.2.2.1.keep k (fun x _ hx e => hx (by rw [HT8.out _ e])), h.2.2.2.keep k (fun e => by have := HL7.out D (by rw [HT8.out _ e]; decide); have := HGD.out; omega)⟩)
      ⟨HG8.out, HB8.out, HH8.out, HD8.out⟩ _ ?assign ?body ?done ?stop
    case assign =>
      intro l x W K hK
      gi_wp2
      exact hK
    case body =>
      rintro l pre x W0 W - - ⟨hkg, hbw, hnh, hdf⟩ hy
      obtain ⟨⟨m', hm, hmd, hxb⟩, hyo, hyl, hyn, hyt⟩ := hy
      have hp0 : pre = [] ∧ m' = m := by
        rw [HM.out] at hm
        rcases pre with _ | ⟨a, t⟩
        · simp at hm; exact ⟨rfl, hm.symm⟩
        · simp at hm
      obtain ⟨rfl, rfl⟩ := hp0
      have hcv := conv_ints (Reads.of_owns hyo)
      rw [hxb, HMB.out, str_ab] at hcv
      have c0 : W.cell? ⟨pG, 0, none⟩ = some (.string { data := #[] }) := hkg.cell 0 rfl
      have f0 := hkg.frozen 0
      have HS1 : Hid (Blk (W.setCell ⟨pG, 0, none⟩ (.string { data := #[97, 98] })) pG #[.string { data := #[97, 98] }] 9) := hkg.set' rfl
      have HS2 : Hid (Below w.heap.size w (W.setCell ⟨pG, 0, none⟩ (.string { data := #[97, 98] }))) := hbw.setCell (p := ⟨pG, 0, none⟩) HW4.out _
      have HS3 : Hid (KeepsOthers W (W.setCell ⟨pG, 0, none⟩ (.string { data := #[97, 98] }))) := KeepsOthers.setCell _ _ _
      have HS4 : Hid (KeepC (fun q => q = pG ∨ w8.heap.size ≤ q) W (W.setCell ⟨pG, 0, none⟩ (.string { data := #[97, 98] }))) := (KeepC.refl _ W).setCell (p := ⟨pG, 0, none⟩) (.inl rfl) _
      have HS5 := Lib.hid (hnh.keepC HS4.out (fun x hx _ e => by have h1 := HL7.out x hx; have h2 := HGD.out; have h3 := HZ5.out; have h4 := HZ6.out; omega))
      have HS6 := Lib.hid (hdf.others HS3.out)
      clear hm hmd hxb hyo hyl hyn hyt hkg hbw hnh hdf
      gi_wp2
      exact ⟨HS3.out, HS4.out, HS1.out, HS2.out, HS5.out, HS6.out⟩
    case stop =>
      rintro D c pre W hD hSp hx hK
      exact hx.elim
    case done =>
      rintro D2 xs W2 hD2 ⟨hT, hxs⟩ ⟨hkg, hbw, hnh, hdf⟩ hK
      rw [HDN.out] at hxs
      rw [hxs] at hkg hT
      obtain ⟨v9, hp9, -⟩ := hT
      have HN9 := Lib.hid (hnh.fill HP7.out hp9)
      have HG9 : Hid (Blk W2 pG #[.string { data := #[97, 98] }] 9) := hkg
      have HB9 := Lib.hid hbw
      have HDA := Lib.hid hdf
      have HDB : Hid (Dfd D2 W2) := hK
      have HDD : Hid (D < D2) := by show _ < _; have h1 := HZ5.out; have h2 := HZ6.out; omega
      have HWD : Hid (w.heap.size ≤ D) := by show _ ≤ _; have h1 := HW4.out; have h2 := HGD.out; omega
      have c0 : W2.cell? ⟨pG, 0, none⟩ = some (.string { data := #[97, 98] }) := hkg.cell 0 rfl
      have HSR := Lib.hid (fun w' => send_range 8 3 none 0 0 (.inr (by omega)) w' nb)
      clear hxs hp9 hkg hbw hnh hdf hK hD2
      go_wp2_with fail
      refine (HSR.out _).mono ?_
      rintro e W3 ⟨rfl, rfl⟩
      have hst := netStats_any HN9.out
      rw [HSN.out] at hst
      have HST := Lib.hid hst
      clear hst
      go_wp2_with fail
      refine HST.out.mono ?_
      rintro e W4 ⟨rfl, hb4⟩
      have HDA4 := Lib.hid (HDA.out.keep (Keep.none hb4) id)
      have HDB4 := Lib.hid (HDB.out.keep (Keep.none hb4) id)
      have HB4 := Lib.hid (bmore HB9.out hb4 HB9.out.size)
      clear hb4 c0 HSR HST HN9 HG9 HDA HDB HB9
      have hfd : (Instr.field 35 (.agg #[.int .i64 1, .int .i64 s4.lost, .int .i64 s4.dropped, .int .i64 s4.doubled, .int .i64 s4.late, .int .i64 s4.turned]) 0).run Try.prog W4 = .ok (.int .i64 1) W4 := field_sent _ _ _ _ _ _ _
      go_wp2
      refine ⟨by simp, .inl ⟨_, _, rfl, run_takeDeferred HDB4.out, ?_⟩⟩
      refine ⟨by simp, .inl ⟨_, _, rfl, run_takeDeferred (HDA4.out.turn HDD.out), ?_⟩⟩
      refine ⟨.bool true, ?_, rfl, below_turn (below_turn HB4.out (Nat.le_trans HWD.out (Nat.le_of_lt HDD.out))) HWD.out⟩
      simp [results, Try.f7, go_sem]
end Go.Proofs.Ytlodiibmofeikaa
