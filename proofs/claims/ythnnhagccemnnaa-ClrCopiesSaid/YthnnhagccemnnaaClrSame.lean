/- clr: do the book and the reference tell the same? -/
import Derived.Test.YthnnhagccemnnaaClrLeast
import Derived.Test.YthnnhagccemnnaaClr7
import Derived.BigQuiet
namespace Go.Proofs.Ythnnhagccemnnaa
open Go.RowKit
set_option linter.unusedVariables false
set_option linter.unusedSimpArgs false

/-- the 64 reports of a state, as an array's cells -/
def arL (s : CSt) : List Value := (List.range 192).map (cellC s)
theorem arL_get (s : CSt) {k : Nat} (h : k < 192) : (arL s)[k]? = some (cellC s k) := by simp [arL, h]
theorem arL_len (s : CSt) : (arL s).length = 192 := by simp [arL]
theorem arL_range {w : World} {b : Nat} {s : CSt} {T : TypeId} (hb : Blk w b (stC s) T) : w.rangeAt b 0 (arL s) := fun j v hv => by
  have hj : j < 192 := by rw [← arL_len s]; exact (List.getElem?_eq_some_iff.1 hv).1
  rw [arL_get s hj] at hv
  rw [Nat.zero_add]
  exact hb.cell j (by rw [stC_get s (by omega)]; exact hv)
theorem info_toldR : (Try.prog.info? 42).map (·.size) = some 3 := by kernel_rfl
theorem cell3 (s : CSt) {k : Nat} (h : k < 64) : cellC s (k * 3) = .bool (s.at' k).isSome ∧ cellC s (k * 3 + 1) = .int .i64 (tkO (s.at' k)) ∧ cellC s (k * 3 + 2) = .int .u64 (rtO (s.at' k)) := by
  refine ⟨?_, ?_, ?_⟩
  · have := st_some s h; rw [stC_get s (by omega)] at this; simpa using this
  · have := st_tick s h; rw [stC_get s (by omega)] at this; simpa using this
  · have := st_rate s h; rw [stC_get s (by omega)] at this; simpa using this
theorem arL_ext (s : CSt) {k : Nat} (h : k < 64) : (arL s).toArray.extract (k * 3) (k * 3 + 3) = #[.bool (s.at' k).isSome, .int .i64 (tkO (s.at' k)), .int .u64 (rtO (s.at' k))] := by
  obtain ⟨c0, c1, c2⟩ := cell3 s h
  apply Array.ext_getElem?
  intro i
  rw [Array.getElem?_extract]
  have hs : (arL s).toArray.size = 192 := by simpa using arL_len s
  rcases i with _ | _ | _ | i
  · rw [if_pos (by omega)]; simp only [List.getElem?_toArray, Nat.add_zero]; rw [arL_get s (by omega), c0]; rfl
  · rw [if_pos (by omega)]; simp only [List.getElem?_toArray, Nat.zero_add]; rw [arL_get s (by omega), c1]; rfl
  · rw [if_pos (by omega)]; simp only [List.getElem?_toArray, Nat.zero_add]; rw [arL_get s (by omega), c2]; rfl
  · rw [if_neg (by omega)]; rfl
theorem run_indexT (s : CSt) {k : Nat} (h : k < 64) (w : World) : (Instr.index 43 (.agg (arL s).toArray) (.int .i64 (k : Int))).run Try.prog w = .ok (.agg #[.bool (s.at' k).isSome, .int .i64 (tkO (s.at' k)), .int .u64 (rtO (s.at' k))]) w := by
  have hi := info_toldR
  cases hq : Try.prog.info? 42 with
  | none => rw [hq] at hi; cases hi
  | some i =>
    rw [hq] at hi
    have hs : i.size = 3 := by simpa using hi
    have hagg : (isAgg 42).run Try.prog w = .ok true w := by
      unfold isAgg
      rw [Sem.run_bind, run_underlying Try.underlying42 w]
      rfl
    have he := arL_ext s h
    have h1 : (0 : Int) ≤ (k : Int) := by omega
    have h2 : (k : Int) < 64 := by omega
    have he' : (List.take 3 (List.drop (k * 3) (arL s))).toArray = #[.bool (s.at' k).isSome, .int .i64 (tkO (s.at' k)), .int .u64 (rtO (s.at' k))] := by simpa using he
    simp [Instr.index, asIntOf, run_underlying Try.underlying43 w, part, sizeOf, typeInfo, hq, hs, hagg, h1, h, he']

def lsI (l : List Told) : Int := match lf l with | none => -1 | some t => t.frm
/-- what the reference's clr is -/
def ClrOk (s : CSt) : Prop := s.clr = -1 ∨ ∃ q : Nat, q < 64 ∧ s.clr = q ∧ (s.at' q).isSome = true
set_option maxRecDepth 100000 in
set_option maxHeartbeats 4000000 in
theorem same_any (b : Nat) (v : Value) (s : CSt) (lim : Int) (w : World) (h : BkAt w b v (told s 64) lim s.clr) (hc : ClrOk s) :
    Calls Try.prog 14 #[.pointer (some ⟨b, 0, none⟩), .agg (stC s)] w fun e w' => e = .returned (.bool true) ∧ Below w.heap.size w w' := by
  have hl64 := told_len s 64
  have HOF := Lib.hid (fun r w h => of_any b v (told s 64) lim s.clr r w h (by omega))
  have HCL := Lib.hid (fun w h => clr_any b v (told s 64) lim s.clr w h (by omega))
  have HLE := Lib.hid (fun w h => least_any b v (told s 64) lim s.clr w h (by omega))
  have HCN := Lib.hid (fun w h => count_any b v (told s 64) lim s.clr w h)
  have HC := Lib.hid hc
  have H := Lib.hid h
  have HIX := Lib.hid (fun k h w => run_indexT s (k := k) h w)
  clear h hc
  go_enter Try.func14, Try.ntmps14
  go_wp2_with (first
    | (refine wpList_boxS rfl _ rfl s rfl ?_; rintro w1 - HB1 HL1 hs1)
    | (refine wpList_load_mid rfl 43 _ rfl w.heap.size 0 rfl (arL s) _ ?_ Try.underlying43 rfl ?_ ?_; exact arL_range HB1.out; rw [arL_len]; exact info_ar))
  have H1 := Lib.hid (H.out.below HL1.out)
  go_loopw [5, 6, 17] (fun cn ls i wr => ∃ k : Nat, k ≤ 64 ∧ i = .int .i64 k ∧ ∃ nk : Nat, ∃ lk' : Int, cn = .int .i64 nk ∧ ls = .int .i64 lk' ∧ Hid (nk = (told s k).length) ∧ Hid (lk' = lsI (told s k)) ∧ Hid (Below w1.heap.size w1 wr)) (fun _ _ i _ => 64 - (intOf i).toNat)
  case atStart => exact ⟨0, by omega, rfl, 0, -1, rfl, rfl, rfl, rfl, Below.refl _ _⟩
  case round =>
    obtain ⟨k, hk, rfl, nk, lk', rfl, rfl, HN, HLK, HB⟩ := hrel
    by_cases hlt : k < 64
    · have hix := HIX.out k hlt
      have hof := HOF.out k
      rw [told_lk s 64 k hlt] at hof
      have hsome : (s.at' k).isSome = (ofN s k).isSome := by unfold ofN; simp
      have htick : tkO (s.at' k) = (gotV (ofN s k)).tick := by unfold ofN tkO gotV; cases s.at' k <;> rfl
      have hrate : rtO (s.at' k) = (gotV (ofN s k)).rate := by unfold ofN rtO gotV; cases s.at' k <;> rfl
      rw [hsome, htick, hrate] at hix
      have hsucc := told_succ s k
      cases ho : ofN s k with
      | none =>
        rw [ho] at hix hof hsucc
        simp only [ofV, toldV] at hof
        have HSU := Lib.hid hsucc
        have HF := Lib.hid hof
        simp only [gotV, Option.isSome_none, Option.getD_none] at hix
        have HBK := Lib.hid (H1.out.below HB.out)
        clear hof hsome htick hrate hsucc ho
        have HT0 := Lib.hid (Blk.new wr #[.bool false, .int .i64 0, .int .u64 0] 42)
        have HTL : Hid (Below wr.heap.size wr (wr.alloc (.cells #[.bool false, .int .i64 0, .int .u64 0] 42))) := (Below.refl _ wr).alloc (Nat.le_refl _) _
        go_wp2_with fail
        refine (HF.out _ (HBK.out.below HTL.out)).mono ?_
        rintro e w2 ⟨rfl, hb2⟩
        have HB2 := Lib.hid (bmore (bmore HB.out HTL.out HB.out.size) hb2 (Nat.le_trans HB.out.size HTL.out.size))
        have HT2 := Lib.hid (HT0.out.below hb2)
        obtain ⟨z0, z1, z2⟩ := blk3 HT2.out
        have hlt2 : wr.heap.size < w2.heap.size := HT2.out.lt
        have hne1 : ¬ wr.heap.size = w2.heap.size := by omega
        have hne2 : ¬ w2.heap.size = wr.heap.size := by omega
        have HL3 : Hid (Below w1.heap.size w1 (w2.alloc (.cells #[.int .i64 0, .int .i64 0, .int .u64 0] 34))) := HB2.out.alloc (HB2.out.size) _
        clear hb2 hix
        go_wp2_with fail
        go_roundw
        case rel => exact ⟨k + 1, by omega, by go_num, nk, lk', rfl, rfl, by show _ = _; rw [HSU.out]; simpa using HN.out, by show _ = _; rw [HSU.out]; simpa using HLK.out, HL3⟩
        case measure => simp [intOf]; omega
      | some o =>
        obtain ⟨fr, tk, rt⟩ := o
        obtain rfl : fr = (k : Int) := ofN_frm ho
        have hnl : (nk : Int) < 1000 := by have := HN.out; have := told_len s k; omega
        rw [ho] at hix hof hsucc
        simp only [ofV, toldV] at hof
        have HSU := Lib.hid hsucc
        have HF := Lib.hid hof
        simp only [gotV, Option.isSome_some, Option.getD_some] at hix
        have HBK := Lib.hid (H1.out.below HB.out)
        clear hof hsome htick hrate hsucc ho
        have HT0 := Lib.hid (Blk.new wr #[.bool true, .int .i64 tk, .int .u64 rt] 42)
        have HTL : Hid (Below wr.heap.size wr (wr.alloc (.cells #[.bool true, .int .i64 tk, .int .u64 rt] 42))) := (Below.refl _ wr).alloc (Nat.le_refl _) _
        go_wp2_with fail
        refine (HF.out _ (HBK.out.below HTL.out)).mono ?_
        rintro e w2 ⟨rfl, hb2⟩
        have HB2 := Lib.hid (bmore (bmore HB.out HTL.out HB.out.size) hb2 (Nat.le_trans HB.out.size HTL.out.size))
        have HT2 := Lib.hid (HT0.out.below hb2)
        obtain ⟨z0, z1, z2⟩ := blk3 HT2.out
        have hlt2 : wr.heap.size < w2.heap.size := HT2.out.lt
        have hne1 : ¬ wr.heap.size = w2.heap.size := by omega
        have hne2 : ¬ w2.heap.size = wr.heap.size := by omega
        have HL3 : Hid (Below w1.heap.size w1 (w2.alloc (.cells #[.int .i64 (k : Int), .int .i64 tk, .int .u64 rt] 34))) := HB2.out.alloc (HB2.out.size) _
        have HT3 := Lib.hid (HT2.out.alloc (.cells #[.int .i64 (k : Int), .int .i64 tk, .int .u64 rt] 34))
        have HG3 := Lib.hid (Blk.new w2 #[.int .i64 (k : Int), .int .i64 tk, .int .u64 rt] 34)
        clear hb2 hix
        go_wp2_with fail
        obtain ⟨y0, y1, y2⟩ := blk3 HT3.out
        have hwl : wr.heap.size < (w2.alloc (.cells #[.int .i64 (k : Int), .int .i64 tk, .int .u64 rt] 34)).heap.size := HT3.out.lt
        cases hlf : lf (told s k) with
        | none =>
          have HLFK := Lib.hid hlf
          have hlk := HLK.out
          unfold lsI at hlk
          rw [hlf] at hlk
          simp only at hlk
          subst hlk
          clear hlf
          generalize w2.alloc (.cells #[.int .i64 (k : Int), .int .i64 tk, .int .u64 rt] 34) = w3 at *
          go_quiet (fail)
          have HL4 := Lib.hid (below_drewN HL3.out nq)
          go_wp2_with fail
          go_roundw
          case rel => exact ⟨k + 1, by omega, by go_num, nk + 1, (k : Int), by go_num, rfl, by show _ = _; rw [HSU.out, List.length_append, ← HN.out]; rfl, by show _ = _; rw [HSU.out, Option.toList_some]; unfold lsI; rw [lf_app, HLFK.out], HL4⟩
          case measure => simp [intOf]; omega
        | some x =>
          have HLFK := Lib.hid hlf
          have hlk := HLK.out
          unfold lsI at hlk
          rw [hlf] at hlk
          simp only at hlk
          obtain ⟨q, hq, hqx⟩ := told_mem.1 (lf_mem hlf)
          obtain rfl : lk' = (q : Int) := hlk.trans (ofN_frm hqx)
          have HQX := Lib.hid (ofN_frm hqx)
          have hq64 : q < 64 := by omega
          have hqr : rtO (s.at' q) = x.rate := by
            unfold ofN at hqx
            cases e : s.at' q with
            | none => rw [e] at hqx; cases hqx
            | some p => rw [e] at hqx; cases hqx; rfl
          have hst := st_rate s hq64
          rw [hqr] at hst
          have y5 := ((HB1.out.below HB2.out).alloc (.cells #[.int .i64 (k : Int), .int .i64 tk, .int .u64 rt] 34)).cell _ hst
          have j1 : (q : Int) < 64 := by omega
          have j2 : (0 : Int) ≤ (q : Int) := by omega
          have j3 : decide ((q : Int) < 0) = false := decide_eq_false (by omega)
          obtain ⟨xr, hxr⟩ : ∃ xr, xr = x.rate := ⟨_, rfl⟩
          have HXR := Lib.hid hxr
          rw [← hxr] at y5
          clear hlf hlk hqx hqr hst hxr
          generalize w2.alloc (.cells #[.int .i64 (k : Int), .int .i64 tk, .int .u64 rt] 34) = w3 at *
          by_cases hr : rt < xr
          · have j4 : decide (rt < xr) = true := decide_eq_true hr
            go_quiet (fail)
            have HL4 := Lib.hid (below_drewN HL3.out nq)
            go_wp2_with fail
            go_roundw
            case rel => exact ⟨k + 1, by omega, by go_num, nk + 1, (k : Int), by go_num, rfl, by show _ = _; rw [HSU.out, List.length_append, ← HN.out]; rfl, by show _ = _; rw [HSU.out, Option.toList_some]; unfold lsI; rw [lf_app, HLFK.out]; simp only; rw [if_pos (by rw [← HXR.out]; exact hr)], HL4⟩
            case measure => simp [intOf]; omega
          · have j4 : decide (rt < xr) = false := decide_eq_false hr
            go_quiet (fail)
            have HL4 := Lib.hid (below_drewN HL3.out nq)
            go_wp2_with fail
            go_roundw
            case rel => exact ⟨k + 1, by omega, by go_num, nk + 1, (q : Int), by go_num, rfl, by show _ = _; rw [HSU.out, List.length_append, ← HN.out]; rfl, by show _ = _; rw [HSU.out, Option.toList_some]; unfold lsI; rw [lf_app, HLFK.out]; simp only; rw [if_neg (by rw [← HXR.out]; exact hr)]; exact HQX.out.symm, HL4⟩
            case measure => simp [intOf]; omega
    · obtain rfl : k = 64 := by omega
      have HBK := Lib.hid (H1.out.below HB.out)
      have hcl := HCL.out
      have hle := HLE.out
      have hcn := HCN.out
      rw [← HN.out] at hcn
      have HCN2 := Lib.hid hcn
      obtain ⟨cf, hcf⟩ : ∃ x, x = gotV (lk (told s 64) s.clr) := ⟨_, rfl⟩
      obtain ⟨cs, hcs⟩ : ∃ x, x = (lk (told s 64) s.clr).isSome := ⟨_, rfl⟩
      obtain ⟨lx, hlx⟩ : ∃ x, x = gotV (lf (told s 64)) := ⟨_, rfl⟩
      obtain ⟨ls, hls⟩ : ∃ x, x = (lf (told s 64)).isSome := ⟨_, rfl⟩
      rw [← hcf, ← hcs] at hcl
      rw [← hlx, ← hls] at hle
      have hst := st_clr s
      obtain ⟨sc, hsc⟩ : ∃ x, x = s.clr := ⟨_, rfl⟩
      rw [← hsc] at hst
      have kc : (cs = true ∧ ¬ sc < 0 ∧ Hid (cf.frm = sc)) ∨ (cs = false ∧ sc < 0) := by
        rcases HC.out with e | ⟨q, hq, e, hs⟩
        · right
          rw [e] at hsc hcs
          rw [told_out s 64 (-1) (by omega)] at hcs
          exact ⟨by rw [hcs]; rfl, by omega⟩
        · left
          rw [e, told_lk s 64 q hq] at hcs hcf
          have hx : (ofN s q).isSome = true := by unfold ofN; simpa using hs
          obtain ⟨o, ho⟩ := Option.isSome_iff_exists.1 hx
          rw [ho] at hcs hcf
          refine ⟨hcs, by omega, ?_⟩
          show _ = _
          rw [hcf, hsc, e]
          exact ofN_frm ho
      have kl : (ls = true ∧ ¬ lk' < 0 ∧ Hid (lx.frm = lk')) ∨ (ls = false ∧ lk' < 0) := by
        have hk := HLK.out
        unfold lsI at hk
        cases e : lf (told s 64) with
        | none =>
          rw [e] at hk hls
          exact .inr ⟨hls, by simp only at hk; omega⟩
        | some x =>
          rw [e] at hk hls hlx
          obtain ⟨q, hq, hqx⟩ := told_mem.1 (lf_mem e)
          have := ofN_frm hqx
          simp only at hk
          refine .inl ⟨hls, by omega, ?_⟩
          show _ = _
          rw [hlx, hk]
          rfl
      have HCL2 : Hid (∀ w, BkAt w b v (told s 64) lim s.clr → Calls Try.prog 10 #[.pointer (some ⟨b, 0, none⟩)] w fun e w' => e = .returned (.tuple #[.agg #[.int .i64 cf.frm, .int .i64 cf.tick, .int .u64 cf.rate], .bool cs]) ∧ Below w.heap.size w w') := hcl
      have HLE2 : Hid (∀ w, BkAt w b v (told s 64) lim s.clr → Calls Try.prog 24 #[.pointer (some ⟨b, 0, none⟩)] w fun e w' => e = .returned (.tuple #[.agg #[.int .i64 lx.frm, .int .i64 lx.tick, .int .u64 lx.rate], .bool ls]) ∧ Below w.heap.size w w') := hle
      have HST := Lib.hid hst
      have HWL : Hid (w1.heap.size ≤ wr.heap.size) := HB.out.size
      clear hcl hle hcn hst hcf hcs hlx hls hsc HCL HLE HCN
      rcases kc with ⟨rfl, k1, k2⟩ | ⟨rfl, k1⟩ <;> rcases kl with ⟨rfl, k3, k4⟩ | ⟨rfl, k3⟩
      all_goals
        go_wp2_with fail
        refine (HCL2.out _ HBK.out).mono ?_
        rintro e w2 ⟨rfl, hb2⟩
        have hl3 : Below w2.heap.size w2 (w2.alloc (.cells #[.int .i64 cf.frm, .int .i64 cf.tick, .int .u64 cf.rate] 34)) := (Below.refl _ w2).alloc (Nat.le_refl _) _
        have HB3 := Lib.hid (bmore (bmore HB.out hb2 HWL.out) hl3 (Nat.le_trans HWL.out hb2.size))
        have HBX3 := Lib.hid (((HB1.out.below HB.out).below hb2).below hl3)
        have HG3 := Lib.hid (Blk.new w2 #[.int .i64 cf.frm, .int .i64 cf.tick, .int .u64 cf.rate] 34)
        have HBK3 := Lib.hid ((HBK.out.below hb2).below hl3)
        clear hb2 hl3
        go_wp2_with fail
        generalize w2.alloc (.cells #[.int .i64 cf.frm, .int .i64 cf.tick, .int .u64 cf.rate] 34) = w3 at *
        refine (HLE2.out _ HBK3.out).mono ?_
        rintro e w4 ⟨rfl, hb4⟩
        have hl5 : Below w4.heap.size w4 (w4.alloc (.cells #[.int .i64 lx.frm, .int .i64 lx.tick, .int .u64 lx.rate] 34)) := (Below.refl _ w4).alloc (Nat.le_refl _) _
        have HB5 := Lib.hid (bmore (bmore HB3.out hb4 HB3.out.size) hl5 (Nat.le_trans HB3.out.size hb4.size))
        have HBX5 := Lib.hid ((HBX3.out.below hb4).below hl5)
        have HG5 := Lib.hid ((HG3.out.below hb4).below hl5)
        have HL5 := Lib.hid (Blk.new w4 #[.int .i64 lx.frm, .int .i64 lx.tick, .int .u64 lx.rate] 34)
        have HBK5 := Lib.hid ((HBK3.out.below hb4).below hl5)
        clear hb4 hl5
        go_wp2_with fail
        generalize w4.alloc (.cells #[.int .i64 lx.frm, .int .i64 lx.tick, .int .u64 lx.rate] 34) = w5 at *
        obtain ⟨g0, -, -⟩ := blk3 HG5.out
        obtain ⟨l0, -, -⟩ := blk3 HL5.out
        have s0 := HBX5.out.cell _ HST.out
        refine (HCN2.out _ HBK5.out).mono ?_
        rintro e w5 ⟨rfl, rfl⟩
        try have k2' := k2.out
        try have k4' := k4.out
        go_wp2
        go_ret
        exact ⟨by simp [*], bmore HL1.out HB5.out HL1.out.size⟩
end Go.Proofs.Ythnnhagccemnnaa
