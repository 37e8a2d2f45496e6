/- build: the law BuildLog. -/
import Derived.Test.YthjlbbbkghigfaaBuildLogP
import Derived.Test.YthjlbbbkghigfaaFam
import Derived.Lib.MinMax
namespace Go.Proofs.Ythjlbbbkghigfaa
open Go.RowKit
set_option linter.unusedVariables false
set_option linter.unusedSimpArgs false

theorem wrap_m1 (i k : Nat) (h : i * k ≤ 2000000) : wrap64 ((i : Int) * (k : Int)) = ((i * k : Nat) : Int) := by
  rw [(Int.natCast_mul i k).symm]
  generalize i * k = y at *
  unfold wrap64
  omega
theorem wrap_m2 (i k : Nat) (h : i * k + k ≤ 2000000) : wrap64 (((i : Int) + 1) * (k : Int)) = ((i * k + k : Nat) : Int) := by
  rw [Int.add_mul, (Int.natCast_mul i k).symm]
  generalize i * k = y at *
  unfold wrap64
  omega
theorem wrap_s (i : Nat) (h : i ≤ 2000000) : wrap64 ((i : Int) + 1) = (i : Int) + 1 := by
  unfold wrap64
  omega
theorem made_bits (n : Nat) : (madeCells (Value.int .i64 0).cells (n * 1)).toList = bitV n (fun _ => false) := by
  unfold madeCells bitV
  rw [Nat.mul_one]
  apply List.ext_getElem
  · simp
  · intro i h1 h2
    simp [Value.cells, b01]
    rw [Nat.mod_one]; rfl
theorem make_ints (n : Nat) (hn : n ≤ 16384) (w : World) : ∃ w', (Instr.makeSlice 39 (.int .i64 (n : Int)) (.int .i64 (n : Int))).run Try.prog w = .ok (.slice (some ⟨w.heap.size, 0, none⟩) n n) w' ∧ Hid (w'.ownsRow w.heap.size 3 1 (.slice (some ⟨w.heap.size, 0, none⟩) n n) n (bitV n (fun _ => false))) ∧ Hid (Below w.heap.size w w') := by
  obtain ⟨i0, hi, hz0, hz1, hz2⟩ := info_parts info_int
  have h := run_make (P := Try.prog) w 39 3 i0 _ Try.underlying39 hi hz0 .i64 .i64 (n : Int) (n : Int) (by omega) (by omega) (by rw [hz2]; omega) (by omega)
  rw [hz1, Int.toNat_natCast] at h
  refine ⟨_, h, ?_, (Below.refl _ w).alloc (Nat.le_refl _) _⟩
  have ho := World.ownsRow_lit (base := w.heap.size) (e := 3) (size := 1) w (madeCells (Value.int .i64 0).cells (n * 1)) n (Nat.le_refl _) (Nat.le_trans hn (by decide)) (size_madeCells _ _)
  rw [made_bits] at ho
  exact ho
theorem givs_at {w : World} {A : Option Addr} {n c : Nat} {l : List Giv} (h : Reads w 4 (.slice A n c) n (l.flatMap givCells)) {k : Nat} {o : Giv} (ho : l[k]? = some o) : ∃ g p, A = some ⟨g, p, none⟩ ∧ g < w.heap.size ∧ w.cell? ⟨g, p + k * 4, none⟩ = some (.int .i64 o.block) ∧ w.cell? ⟨g, p + k * 4 + 1, none⟩ = some (.int .i64 o.fr) ∧ w.cell? ⟨g, p + k * 4 + 2, none⟩ = some (.int .i64 o.to) ∧ w.cell? ⟨g, p + k * 4 + 3, none⟩ = some (.int .i64 o.tick) := by
  obtain ⟨g, p, c', he, hc⟩ := Reads.elem h givCells_len (by omega) ho
  cases he
  exact ⟨g, p, rfl, World.block_lt_of_cell? _ _ (hc 0 _ rfl), hc 0 _ rfl, hc 1 _ rfl, hc 2 _ rfl, hc 3 _ rfl⟩
set_option maxRecDepth 100000 in
theorem refblocks_any (s k : Nat) (w : World) (h1 : s ≤ 16384) (hk : 1 ≤ k) (hk2 : k ≤ 64) :
    Calls Try.prog 13 #[.int .i64 s, .int .i64 k] w fun e w' => e = .returned (.int .i64 (nb s k)) ∧ w = w' := by
  have hl := nb_le h1 hk
  have HL := Lib.hid (fun i => nb_lt (s := s) (k := k) (i := i) hk)
  generalize nb s k = z at *
  go_enter Try.func13, Try.ntmps13
  go_wp2_with fail
  go_loopw [5] (fun p wr => ∃ q : Nat, q ≤ z ∧ p = .int .i64 q ∧ Hid (wr = w)) (fun p _ => z - (intOf p).toNat)
  case atStart => exact ⟨0, by omega, rfl, Lib.hid rfl⟩
  case round =>
    obtain ⟨q, hq, rfl, HW⟩ := hrel
    have hm := mul_le' (i := q) (k := k) (by omega) hk2
    have e1 : (q : Int) * (k : Int) = ((q * k : Nat) : Int) := (Int.natCast_mul q k).symm
    have w1 : wrap64 ((q : Int) * (k : Int)) = ((q * k : Nat) : Int) := by rw [e1]; unfold wrap64; omega
    by_cases hqz : q < z
    · have h2 := (HL.out q).1 hqz
      have t1 : wrap64 ((q : Int) * (k : Int)) < (s : Int) := by rw [w1]; omega
      clear e1 w1 hm
      generalize q * k = y at *
      go_wp2
      go_roundw
      case rel => exact ⟨q + 1, by omega, by go_num, HW⟩
      case measure => simp [intOf]; omega
    · obtain rfl : q = z := by omega
      have h2 : ¬ q * k < s := fun h => hqz ((HL.out q).2 h)
      have t1 : ¬ wrap64 ((q : Int) * (k : Int)) < (s : Int) := by rw [w1]; omega
      clear e1 w1 hm
      generalize q * k = y at *
      go_wp2
      go_ret
      exact ⟨rfl, HW.out.symm⟩
/-- behind some bytes of the next one -/
def cntR (l : List Giv) (k y r : Nat) (n : Int) : Bool := cntB l k n || (decide ((y : Int) ≤ n) && decide (n < (r : Int)))
theorem cntR_start (l : List Giv) (k y : Nat) : cntR l k y y = cntB l k := by
  funext n
  unfold cntR
  have : (decide ((y : Int) ≤ n) && decide (n < (y : Int))) = false := by rw [Bool.eq_false_iff]; simp
  rw [this, Bool.or_false]
theorem cntR_self {l : List Giv} {k y r : Nat} (h : cntB l k (r : Int) = false) : cntR l k y r (r : Int) = false := by
  unfold cntR
  rw [h]; simp
theorem cntR_next {l : List Giv} {k y r : Nat} (h : y ≤ r) (n : Int) : (if n = (r : Int) then true else cntR l k y r n) = cntR l k y (r + 1) n := by
  unfold cntR
  by_cases e : n = (r : Int)
  · rw [if_pos e]
    have : (decide ((y : Int) ≤ n) && decide (n < ((r + 1 : Nat) : Int))) = true := by simp; omega
    rw [this, Bool.or_true]
  · rw [if_neg e]
    congr 2
    rw [decide_eq_decide]
    omega
/-- a slice's block is none of the build's -/
def DisW (v : Value) (x : BuS) : Prop := ∀ g, v.ownBlock = some g → ¬ BuSet x g ∧ g ≠ x.pb
theorem StB.keep {S : Nat → Prop} {W0 w w' : World} {b s k n : Nat} {x : BuS} (h : StB W0 w b s k n x) (hk : Keep S w w') (h1 : ∀ q, BuSet x q → ¬ S q) (h2 : ¬ S x.pb) (h3 : ∀ q, S q → W0.heap.size ≤ q) : StB W0 w' b s k n x :=
  ⟨h.at_.keep hk (h1 _ (.inl rfl)) h2 (h1 _ (.inr (.inl rfl))) (fun g hg => h1 g (.inr (.inr (.inl hg)))) (fun g hg => h1 g (.inr (.inr (.inr (.inl hg))))) (fun g hg => h1 g (.inr (.inr (.inr (.inr hg))))), h.new, bkeep h.bel hk (Nat.le_refl _) h3, h.b_, h.s_, h.k_, h.n_⟩
theorem BuSet.lt {w : World} {x : BuS} (h : BuAt w x) {q : Nat} (e : BuSet x q) : q < w.heap.size := by
  have hl := h.lts
  rcases e with e | e | e | e | e
  · omega
  · omega
  · exact hl.2.2.2.1 _ e
  · exact hl.2.2.2.2.1 _ e
  · exact hl.2.2.2.2.2 _ e
set_option maxRecDepth 100000 in
set_option maxHeartbeats 1000000 in
theorem log_no (s k n : Int) (A : Option Addr) (m c : Nat) (w : World) (hz : rightC s k n m = false) :
    Calls Try.prog 3 #[.agg #[.int .i64 s, .int .i64 k, .int .i64 n, .slice A m c]] w fun e w' => e = .returned (.bool true) ∧ Below w.heap.size w w' := by
  have HR := Lib.hid (fun w => right26_any s k n A m c w)
  rw [hz] at HR
  have hbz := Blk.new w #[.int .i64 s, .int .i64 k, .int .i64 n, .slice A m c] 24
  have HB := Lib.hid ((Below.refl _ w).alloc (Nat.le_refl w.heap.size) (.cells #[.int .i64 s, .int .i64 k, .int .i64 n, .slice A m c] 24))
  obtain ⟨c0, c1, c2, c3⟩ := blk4 hbz
  clear hbz hz
  go_enter Try.func3, Try.ntmps3
  go_wp2_with fail
  refine (HR.out _).mono ?_
  rintro e w1 ⟨rfl, hb1⟩
  have HB1 := Lib.hid (bmore HB.out hb1 HB.out.size)
  clear hb1
  go_wp2_with fail
  refine (awake_any _).mono ?_
  rintro e w2 ⟨rfl, hb2⟩
  have HB2 := Lib.hid (bmore HB1.out hb2 HB1.out.size)
  clear hb2
  go_wp2
  go_ret
  exact ⟨rfl, HB2.out⟩
set_option maxRecDepth 100000 in
set_option maxHeartbeats 8000000 in
theorem log_yes (s k n : Nat) (A : Option Addr) (m c : Nat) (ops : List OpB) (w : World) (hz : rightC s k n m = true) (hp : PlanOk s k n) (hs4 : s ≤ 400) (hm : m ≤ 60) (h : OpsIn w (.slice A m c) ops) (hl : m = ops.length) :
    Calls Try.prog 3 #[.agg #[.int .i64 s, .int .i64 k, .int .i64 n, .slice A m c]] w fun e w' => e = .returned (.bool true) ∧ Below w.heap.size w w' := by
  have HR := Lib.hid (fun w => right26_any s k n A m c w)
  rw [hz] at HR
  have hbz := Blk.new w #[.int .i64 s, .int .i64 k, .int .i64 n, .slice A m c] 24
  have hba : Below w.heap.size w (w.alloc (.cells #[.int .i64 s, .int .i64 k, .int .i64 n, .slice A m c] 24)) := (Below.refl _ w).alloc (Nat.le_refl _) _
  have HX := Lib.hid (h.below hba)
  have HL := Lib.hid hl
  have HP := Lib.hid hp
  obtain ⟨x0, x1, x2, x3⟩ := blk4 hbz
  have HBZ := Lib.hid hbz
  have HBA := Lib.hid hba
  have HNW := Lib.hid (fun w => bnew_yes s k n w hp)
  obtain ⟨i0, hi, hz0, hz1, hz2⟩ := info_parts info_giv
  have HI0 := Lib.hid hi
  have HZ0 := Lib.hid hz0
  have HZ1 := Lib.hid hz1
  have HZ2 := Lib.hid hz2
  have hk64 : k ≤ 64 := hp.2.2.1
  clear h hl hbz hba hz hp hi hz0 hz1 hz2
  go_enter Try.func3, Try.ntmps3
  go_wp2_with fail
  generalize w.alloc (.cells #[.int .i64 s, .int .i64 k, .int .i64 n, .slice A m c] 24) = wz at *
  refine (HR.out wz).mono ?_
  rintro e w0 ⟨rfl, hb0⟩
  have HX0 := Lib.hid (HX.out.below hb0)
  have HB0 := Lib.hid (HBZ.out.below hb0)
  have HBB0 := Lib.hid (bmore HBA.out hb0 HBA.out.size)
  clear hb0 x0 x1 x2 x3
  obtain ⟨x0, x1, x2, x3⟩ := blk4 HB0.out
  have hw0 : w.heap.size < w0.heap.size := HB0.out.lt
  go_wp2_with fail
  refine (HNW.out w0).mono ?_
  rintro e w1 ⟨x, rfl, hx, ex, nx, b1⟩
  obtain ⟨b, hb⟩ : ∃ b, b = x.b := ⟨_, rfl⟩
  have HS1 : Hid (StB w0 w1 b s k n x) := ⟨hx.out, nx.out, b1.out, hb.symm, ex.out.1, ex.out.2.1, ex.out.2.2.1⟩
  have HLO : Hid (LogOk x) := ⟨by rw [ex.out.2.2.2.2.2.1]; simp, by rw [ex.out.2.2.2.2.2.1]; simp, by rw [ex.out.2.2.2.2.2.1, ex.out.2.2.2.1]; simp [cov]⟩
  have HLL : Hid (0 = x.log.length) := by show _ = _; rw [ex.out.2.2.2.2.2.1]; rfl
  have HL0 : Hid (x.log = []) := ex.out.2.2.2.2.2.1
  rw [← hb]
  have B1 := Lib.hid (HB0.out.belowAt b1.out hw0)
  clear hb hx ex nx b1 x0 x1 x2 x3
  obtain ⟨x0, x1, x2, x3⟩ := blk4 B1.out
  go_wp2_with fail
  clear x0 x1 x2 x3
  go_loopw [5, 37] (fun o i wr => ∃ (j : Nat) (x : BuS) (A' : Option Addr) (c' q : Nat), j ≤ m ∧ i = .int .i64 j ∧ o = .slice A' q c' ∧ q ≤ j ∧ Hid (StB w0 wr b s k n x) ∧ Hid (q = x.log.length) ∧ Hid (LogOk x) ∧ Hid (wr.ownsRow w0.heap.size 37 4 (.slice A' q c') q (x.log.flatMap givCells)) ∧ Hid (DisW (.slice A' q c') x)) (fun _ i _ => m - (intOf i).toNat)
  case atStart => exact ⟨0, x, none, 0, 0, by omega, rfl, rfl, by omega, HS1, HLL, HLO, ⟨by rw [HL0.out]; rfl, .inl ⟨rfl, rfl⟩⟩, fun g hg => by cases hg⟩
  case round =>
    obtain ⟨j, x, A', c', q, hj, rfl, rfl, hqj, HS, HQ, HO, HW, HD⟩ := hrel
    by_cases hlt : j < m
    · obtain ⟨⟨kd, bk, tk, tv, tx⟩, ho⟩ : ∃ o, ops[j]? = some o := ⟨_, List.getElem?_eq_getElem (by rw [← HL.out]; exact hlt)⟩
      have hin := HX0.out.all _ (List.mem_of_getElem? ho)
      obtain ⟨tA, tc, htv, -⟩ := hin.rd.val
      have htv : tv = .slice tA tx.length tc := htv
      obtain ⟨tn, htn⟩ : ∃ tn, tn = tx.length := ⟨_, rfl⟩
      rw [← htn] at htv
      subst htv
      obtain ⟨g, p, c0, he, o0, o1, o2, o3⟩ := (HX0.out.below HS.out.bel).at ho
      rw [← HL.out] at he
      cases he
      have i1 : (0 : Int) ≤ (j : Int) := by omega
      have i2 : (j : Int) < (m : Int) := by omega
      have hbo : Below wr.heap.size wr (wr.alloc (.cells #[.int .i64 kd, .int .i64 bk, .int .i64 tk, .slice tA tn tc] 34)) := (Below.refl _ wr).alloc (Nat.le_refl _) _
      have HBX := Lib.hid (Blk.new wr #[.int .i64 kd, .int .i64 bk, .int .i64 tk, .slice tA tn tc] 34)
      have HS2 := Lib.hid (HS.out.below hbo)
      have HW2 : Hid ((wr.alloc (.cells #[.int .i64 kd, .int .i64 bk, .int .i64 tk, .slice tA tn tc] 34)).ownsRow w0.heap.size 37 4 (.slice A' q c') q (x.log.flatMap givCells)) := ownsRow_keep HW.out (Keep.none hbo) (fun _ _ => id)
      have hput := put_op x ⟨kd, bk, tk, .slice tA tn tc, tx⟩ w0 _ b s k n hin HS2.out (by rw [← HQ.out]; omega)
      have HSB := Lib.hid (fun q (e : BuSet x q) => BuSet.lt HS.out.at_ e)
      obtain ⟨pe, hpe⟩ : ∃ pe, pe = putE x bk tk tx.length := ⟨_, rfl⟩
      have HPE := Lib.hid hpe
      have hput : Calls _ _ _ _ fun e w' => ∃ x', e = .returned (.int .i64 (putE x bk tk tx.length)) ∧ PutR x bk tk tx _ w' x' := hput
      rw [← hpe] at hput
      have HPT := Lib.hid hput
      clear ho hin hbo hput hpe htn
      by_cases hkd : kd = 1
      · have t1 : (kd == 1) = true := by simp [hkd]
        clear hkd
        go_wp2_with fail
        refine HPT.out.mono ?_
        rintro e w3 ⟨x', rfl, r⟩
        have HS3 := Lib.hid (HS2.out.put r)
        have HO3 := Lib.hid (HO.out.put r)
        have HW3 : Hid (w3.ownsRow w0.heap.size 37 4 (.slice A' q c') q (x.log.flatMap givCells)) := ownsRow_keep HW2.out r.keep (fun g hg => (HD.out g hg).1)
        have HD3 : Hid (DisW (.slice A' q c') x') := fun g hg => ⟨fun e => (r.own g e).elim (HD.out g hg).1 (fun h => by have := (own_lt HW2.out hg).2; omega), by rw [r.same.2.1]; exact (HD.out g hg).2⟩
        have hbx := HBX.out.keep r.keep (fun e => by have := HSB.out _ e; omega)
        have hbz3 := HB0.out.belowAt HS3.out.bel hw0
        have HR3 := Lib.hid r
        have HBX3 := Lib.hid hbx
        have HBZ3 := Lib.hid hbz3
        clear r o0 o1 o2 o3 hbx hbz3
        by_cases hpe0 : pe = 0
        · subst hpe0
          have HY := Lib.hid (HR3.out.yes HPE.out.symm)
          have HPZ := Lib.hid (putE_zero HPE.out.symm)
          obtain ⟨x0, x1, x2, x3⟩ := blk4 HBZ3.out
          obtain ⟨b0, b1, b2, b3⟩ := blk4 HBX3.out
          have hbk : 0 ≤ bk ∧ bk < 16385 := by
            have := HPZ.out.2.1
            have := nb_le HP.out.1 HP.out.2.1
            rw [HS.out.s_, HS.out.k_] at *
            omega
          obtain ⟨bi, rfl⟩ : ∃ bi : Nat, bk = bi := ⟨bk.toNat, by omega⟩
          have hmul := mul_le' (i := bi) (k := k) (by omega) hk64
          have e1 : (bi : Int) * (k : Int) = ((bi * k : Nat) : Int) := (Int.natCast_mul bi k).symm
          have w1 := wrap_m1 bi k (by omega)
          have w2 := wrap_m2 bi k (by omega)
          have HLOG : Hid (x'.log = x.log ++ [⟨bi, ((bi * k : Nat) : Int), min ((bi * k + k : Nat) : Int) s, tk⟩]) := by
            show _ = _
            rw [HY.out.2.2, HS.out.k_, HS.out.s_, e1]
            rfl
          have hb16 : bi ≤ 2000000 := by omega
          clear e1 hbk
          generalize bi * k = y at *
          have hs3 := HS3.out.bel.size
          go_wp2_with (at_builtin; refine wpList_app1 rfl (.tmp 55) (.tmp 75) 31 rfl w0.heap.size 37 i0 (.agg #[.int .i64 0, .int .i64 0, .int .i64 0, .int .i64 0]) 4 32 Try.underlying31 HI0.out HZ0.out HZ1.out HZ2.out rfl (.slice A' q c') q _ rfl HW3.out _ 1 rfl rfl (by intro u hu; simp at hu; rcases hu with rfl | rfl | rfl | rfl <;> rfl) (by omega) (by omega) hs3 ?_; rintro A4 c4 w4 hown4 hk4 hg4 -)
          have HS4 : Hid (StB w0 w4 b s k n x') := HS3.out.keep hk4 (fun g e h => (HD3.out g h).1 e) (fun h => (HD3.out _ h).2 rfl) (fun g h => (own_lt HW3.out h).1)
          have HQ4 : Hid (q + 1 = x'.log.length) := by show _ = _; rw [HLOG.out, List.length_append, ← HQ.out]; rfl
          have HW4 : Hid (w4.ownsRow w0.heap.size 37 4 (.slice A4 (q + 1) c4) (q + 1) (x'.log.flatMap givCells)) := by
            show World.ownsRow ..
            rw [HLOG.out, List.flatMap_append]
            exact (by exact hown4)
          have HD4 : Hid (DisW (.slice A4 (q + 1) c4) x') := fun g hg => (hg4 g hg).elim (HD3.out g) (fun h => ⟨fun e => by have := BuSet.lt HS3.out.at_ e; omega, fun e => by have := (HS3.out.at_.lts).2.1; omega⟩)
          clear hown4 hk4 hg4 x0 x1 x2 x3 b0 b1 b2 b3 w1 w2
          go_wp2
          go_roundw
          case rel => exact ⟨j + 1, x', A4, c4, q + 1, by omega, by go_num, rfl, by omega, HS4, HQ4, HO3, HW4, HD4⟩
          case measure => simp [intOf]; omega
        · have t2 : (pe == 0) = false := by simpa using hpe0
          have HNO := Lib.hid (HR3.out.no (by rw [← HPE.out]; exact hpe0))
          clear hpe0
          have HQ3 : Hid (q = x'.log.length) := by show _ = _; rw [HNO.out.2.2]; exact HQ.out
          have HW4 : Hid (w3.ownsRow w0.heap.size 37 4 (.slice A' q c') q (x'.log.flatMap givCells)) := by show World.ownsRow ..; rw [HNO.out.2.2]; exact HW3.out
          go_wp2
          go_roundw
          case rel => exact ⟨j + 1, x', A', c', q, by omega, by go_num, rfl, by omega, HS3, HQ3, HO3, HW4, HD3⟩
          case measure => simp [intOf]; omega
      · have t1 : (kd == 1) = false := by simp [hkd]
        clear hkd
        go_wp2
        go_roundw
        case rel => exact ⟨j + 1, x, A', c', q, by omega, by go_num, rfl, by omega, HS2, HQ, HO, HW2, HD⟩
        case measure => simp [intOf]; omega
    · obtain rfl : j = m := by omega
      obtain ⟨wb, hwb⟩ : ∃ wb : World, wb = wr := ⟨_, rfl⟩
      rw [← hwb] at HS HW ⊢
      clear hwb
      have hlog := blog_any x wb HS.out.at_ (by rw [← HQ.out]; omega)
      rw [HS.out.b_, ← HQ.out] at hlog
      have HLG := Lib.hid hlog
      clear hlog
      go_wp2_with fail
      refine HLG.out.mono ?_
      rintro e w5 ⟨A5, c5, rfl, ho5, hb5⟩
      have HS5 := Lib.hid (HS.out.below hb5)
      have HR5 : Hid (Reads w5 4 (.slice A5 q c5) q (x.log.flatMap givCells)) := Reads.of_owns ho5
      have HV5 : Hid (Reads w5 4 (.slice A' q c') q (x.log.flatMap givCells)) := (Reads.of_owns HW.out).below hb5
      have HB5 := Lib.hid (HB0.out.belowAt HS5.out.bel hw0)
      clear ho5 hb5
      obtain ⟨x0, x1, x2, x3⟩ := blk4 HB5.out
      obtain ⟨w6, hm6, HO6, HM6⟩ := make_ints s (by have := HP.out.1; omega) w5
      have HXK : Hid (x.k = k) := HS.out.k_
      have HXS : Hid (x.s = s) := HS.out.s_
      have hk1 : 1 ≤ k := HP.out.2.1
      have hs16 : s ≤ 16384 := HP.out.1
      go_wp2_with fail
      clear hm6 x0 x1 x2 x3
      go_loopw [90] (fun i wr => ∃ q2 : Nat, q2 ≤ q ∧ i = .int .i64 q2 ∧ Hid (Below w5.heap.size w5 wr) ∧ Hid (wr.ownsRow w5.heap.size 3 1 (.slice (some ⟨w5.heap.size, 0, none⟩) s s) s (bitV s (cntB (x.log.take q2) k)))) (fun i _ => q - (intOf i).toNat)
      case atStart => exact ⟨0, by omega, rfl, HM6, HO6⟩
      case round =>
        obtain ⟨q2, hq2, rfl, HM, HN⟩ := hrel
        by_cases hlt2 : q2 < q
        · obtain ⟨⟨gb, gf, gt, gk⟩, hg⟩ : ∃ g, x.log[q2]? = some g := ⟨_, List.getElem?_eq_getElem (by rw [← HQ.out]; exact hlt2)⟩
          obtain ⟨bi, hbi, e1, e2, e3⟩ := HO.out.1 _ (List.mem_of_getElem? hg)
          rw [HXK.out] at e2 e3
          rw [HXS.out] at e3
          rw [HXS.out, HXK.out] at hbi
          have e1 : gb = (bi : Int) := e1
          have e2 : gf = ((bi * k : Nat) : Int) := e2
          have e3 : gt = ((min (bi * k + k) s : Nat) : Int) := e3
          subst e1 e2 e3
          have hys := (nb_lt (s := s) (k := k) (i := bi) hk1).1 hbi
          have hnone := fun (r : Nat) (h1 : bi * k ≤ r) (h2 : r < min (bi * k + k) s) => cnt_none HO.out (by rw [HXK.out]; exact hk1) hg (rfl : _ = (bi : Int)) (p := r) (by rw [HXK.out]; exact h1) (by rw [HXK.out, HXS.out]; exact h2)
          have hnext := fun (r : Nat) (h1 : r < s) => cnt_next (x := x) (by rw [HXK.out]; exact hk1) hg (rfl : _ = (bi : Int)) (p := r) (by rw [HXS.out]; exact h1)
          rw [HXK.out] at hnone hnext
          rw [HXS.out] at hnext
          have hcov : cov x.L (bi : Int) = true := (HO.out.2.2 _).2 ⟨_, List.mem_of_getElem? hg, rfl⟩
          obtain ⟨ga, pa, rfl, la, a0, a1, a2, a3⟩ := givs_at (HR5.out.below HM.out) hg
          obtain ⟨gw, pw, rfl, lw, d0, d1, d2, d3⟩ := givs_at (HV5.out.below HM.out) hg
          have hyt : bi * k < min (bi * k + k) s ∧ min (bi * k + k) s ≤ s := by omega
          have hbi64 : (bi : Int) ≤ 9223372036854775807 := by have := nb_le hs16 hk1; omega
          clear hbi hys hg
          generalize bi * k = y at *
          generalize min (y + k) s = t at *
          have i1 : (0 : Int) ≤ (q2 : Int) := by omega
          have i2 : (q2 : Int) < (q : Int) := by omega
          have HNO := Lib.hid hnone
          have HNE := Lib.hid hnext
          have hlt5 := (own_lt HN.out rfl).2
          have hba7 : Below wr.heap.size wr (wr.alloc (.cells #[.int .i64 (bi : Int), .int .i64 (y : Int), .int .i64 (t : Int), .int .i64 gk] 37)) := (Below.refl _ wr).alloc (Nat.le_refl _) _
          have hx7 := Blk.new wr #[.int .i64 (bi : Int), .int .i64 (y : Int), .int .i64 (t : Int), .int .i64 gk] 37
          have hsz : (wr.alloc (.cells #[.int .i64 (bi : Int), .int .i64 (y : Int), .int .i64 (t : Int), .int .i64 gk] 37)).heap.size = wr.heap.size + 1 := by simp
          have HC := Lib.hid hcov
          have HA7 := Lib.hid hba7
          have HX7 := Lib.hid hx7
          have HSZ := Lib.hid hsz
          clear hba7 hx7 hsz hcov hnone hnext
          go_wp2_with fail
          generalize wr.alloc (.cells #[.int .i64 (bi : Int), .int .i64 (y : Int), .int .i64 (t : Int), .int .i64 gk] 37) = w7 at *
          obtain ⟨G, hne, F, hF, hG⟩ := fam_of w7
          have HF := Lib.hid hF
          have HFX : Hid (∀ g, Blk (F g) wr.heap.size #[.int .i64 (bi : Int), .int .i64 (y : Int), .int .i64 (t : Int), .int .i64 gk] 37) := fun g => HX7.out.belowAt (hF g) (by rw [HSZ.out]; omega)
          have HM7 : Hid (∀ g, Below w5.heap.size w5 (F g)) := fun g => bmore HM.out (bmore HA7.out (hF g) HA7.out.size) HM.out.size
          have f0 := fun g => (blk4 (HFX.out g)).1
          have f1 := fun g => (blk4 (HFX.out g)).2.1
          have f2 := fun g => (blk4 (HFX.out g)).2.2.1
          have f3 := fun g => (blk4 (HFX.out g)).2.2.2
          have hw7 : ∀ g p v, wr.cell? p = some v → (F g).cell? p = some v := fun g p v hc => (World.cell?_of_block (w := wr) ((bmore HA7.out (hF g) HA7.out.size).block _ (World.block_lt_of_cell? _ _ hc))).trans hc
          have f4 := fun g => hw7 g _ _ d0
          have f5 := fun g => hw7 g _ _ d1
          have f6 := fun g => hw7 g _ _ d2
          have f7 := fun g => hw7 g _ _ d3
          have hd : ∃ g, { w7 with drawn := w7.drawn + 1 } = F g := hG _ (below_drewN (Below.refl _ w7) 1)
          have HD' := Lib.hid hd
          have KHA : Hid (∀ g, Calls Try.prog 12 #[.pointer (some ⟨b, 0, none⟩), .int .i64 (bi : Int)] (F g) fun e w' => e = .returned (.bool true) ∧ ∃ g', w' = F g') := fun g => by
            have h := bhas_any x bi (F g) (HS5.out.below (HM7.out g)).at_ hbi64
            rw [HS.out.b_, HC.out] at h
            exact fam_call hF hG h
          have t1 : ((bi : Int) == (bi : Int)) = true := by simp
          have t2 : ((y : Int) == (y : Int)) = true := by simp
          have t3 : ((t : Int) == (t : Int)) = true := by simp
          have t4 : (gk == gk) = true := by simp
          clear hd hF hG hw7 a0 a1 a2 a3 d0 d1 d2 d3 la lw
          refine wp_region_fam F (by kernel_rfl) (by kernel_rfl) HD'.out ?_
          repeat (go_big_quiet_step (first
            | (go_at_call 12; exact KHA.out _)))
          refine wpQuiet_nil ?_
          intro w8 hw'
          obtain ⟨g, hw'⟩ := hw'
          have HMW := Lib.hid (HM7.out g)
          have HXW := Lib.hid (HFX.out g)
          have HNW' : Hid ((F g).ownsRow w5.heap.size 3 1 (.slice (some ⟨w5.heap.size, 0, none⟩) s s) s (bitV s (cntB (x.log.take q2) k))) := ownsRow_keep HN.out (Keep.none (bmore HA7.out (HF.out g) HA7.out.size)) (fun _ _ => id)
          obtain ⟨W, hWe⟩ : ∃ W, W = F g := ⟨_, rfl⟩
          rw [← hWe] at HMW HXW HNW' hw'
          subst hw'
          clear hWe f0 f1 f2 f3 f4 f5 f6 f7 HF HFX HM7 HD' KHA
          obtain ⟨b0, b1, b2, b3⟩ := blk4 HXW.out
          go_wp2_with fail
          obtain ⟨w9, rfl⟩ : ∃ w9 : World, w9 = wr := ⟨_, rfl⟩
          go_loopw [12] (fun kv wi => ∃ r : Nat, y ≤ r ∧ r ≤ t ∧ kv = .int .i64 r ∧ Hid (wi.ownsRow w5.heap.size 3 1 (.slice (some ⟨w5.heap.size, 0, none⟩) s s) s (bitV s (cntR (x.log.take q2) k y r))) ∧ Hid (Keep (fun g => g = w5.heap.size) w8 wi)) (fun kv _ => t - (intOf kv).toNat)
          case atStart => exact ⟨y, by omega, by omega, rfl, by rw [cntR_start]; exact HNW', Keep.refl _ _⟩
          case round =>
            obtain ⟨r, hr1, hr2, rfl, HRW, HKW⟩ := hrel
            have hbx := HXW.out.keep HKW.out (by omega)
            obtain ⟨b0, b1, b2, b3⟩ := blk4 hbx
            clear hbx
            by_cases hrt : r < t
            · have hz : cntR (x.log.take q2) k y r (r : Int) = false := cntR_self (HNO.out r hr1 hrt)
              have y1 : wr.cell? ⟨w5.heap.size, r, none⟩ = some (.int .i64 0) := by
                have h := ownsRow_cell HRW.out (bitV_get (show r < s by omega))
                rw [hz] at h
                exact h
              have y2 := ownsRow_frozen HRW.out r
              simp only at y2
              have HR2 : Hid ((wr.setCell ⟨w5.heap.size, r, none⟩ (.int .i64 1)).ownsRow w5.heap.size 3 1 (.slice (some ⟨w5.heap.size, 0, none⟩) s s) s (bitV s (cntR (x.log.take q2) k y (r + 1)))) := by
                have h := ownsRow_set HRW.out (j := r) (by rw [bitV_len]; omega) (.int .i64 1)
                rw [show (Value.int .i64 1) = .int .i64 (b01 true) from rfl, bitV_set (show r < s by omega) true, bitV_congr (fun i hi => cntR_next hr1 i)] at h
                exact h
              have HK2 : Hid (Keep (fun g => g = w5.heap.size) w8 (wr.setCell ⟨w5.heap.size, r, none⟩ (.int .i64 1))) := HKW.out.setCell (p := ⟨w5.heap.size, r, none⟩) (.inl rfl) _
              have i1 : (0 : Int) ≤ (r : Int) := by omega
              have i2 : (r : Int) < (s : Int) := by omega
              clear hz
              go_wp2
              go_roundw
              case rel => exact ⟨r + 1, by omega, by omega, by go_num, HR2, HK2⟩
              case measure => simp [intOf]; omega
            · obtain rfl : r = t := by omega
              have HN2 : Hid (wr.ownsRow w5.heap.size 3 1 (.slice (some ⟨w5.heap.size, 0, none⟩) s s) s (bitV s (cntB (x.log.take (q2 + 1)) k))) := by
                have h := HRW.out
                rw [bitV_congr (fun i hi => HNE.out i hi)] at h
                exact h
              have HM2 : Hid (Below w5.heap.size w5 wr) := bkeep HMW.out HKW.out (Nat.le_refl _) (fun g hg => by omega)
              go_wp2
              go_roundw
              case rel => exact ⟨q2 + 1, by omega, by go_num, HM2, HN2⟩
              case measure => simp [intOf]; omega
        · obtain rfl : q2 = q := by omega
          have hbx := HB5.out.belowAt HM.out (HB5.out.lt)
          obtain ⟨x0, x1, x2, x3⟩ := blk4 hbx
          have HRB := Lib.hid (refblocks_any s k wr hs16 hk1 hk64)
          have HN2 : Hid (wr.ownsRow w5.heap.size 3 1 (.slice (some ⟨w5.heap.size, 0, none⟩) s s) s (bitV s (cntB x.log k))) := by
            have h := HN.out
            rw [HQ.out, List.take_length] at h
            exact h
          have HLB := Lib.hid (fun i => nb_lt (s := s) (k := k) (i := i) hk1)
          have hz16 := nb_le (s := s) (k := k) hs16 hk1
          generalize nb s k = z at *
          obtain ⟨w9, rfl⟩ : ∃ w9 : World, w9 = wr := ⟨_, rfl⟩
          clear hbx
          go_wp2_with fail
          refine HRB.out.mono ?_
          rintro e _ ⟨rfl, rfl⟩
          go_wp2_with fail
          clear x0 x1 x2 x3
          go_loopw [133] (fun i wr => ∃ z2 : Nat, z2 ≤ z ∧ i = .int .i64 z2 ∧ Hid (Below w9.heap.size w9 wr)) (fun i _ => z - (intOf i).toNat)
          case atStart => exact ⟨0, by omega, rfl, Below.refl _ _⟩
          case round =>
            obtain ⟨z2, hz2', rfl, HM2⟩ := hrel
            have HM5 : Hid (Below w5.heap.size w5 wr) := bmore HM.out HM2.out HM.out.size
            have hbx := HB5.out.belowAt HM5.out (HB5.out.lt)
            by_cases hlz : z2 < z
            · have hy := (HLB.out z2).1 hlz
              have hm := mul_le' (i := z2) (k := k) (by omega) hk64
              have w1 := wrap_m1 z2 k (by omega)
              have HN3 : Hid (wr.ownsRow w5.heap.size 3 1 (.slice (some ⟨w5.heap.size, 0, none⟩) s s) s (bitV s (cntB x.log k))) := ownsRow_keep HN2.out (Keep.none HM2.out) (fun _ _ => id)
              have hv : cntB x.log k ((z2 * k : Nat) : Int) = cov x.L z2 := by
                have h := cnt_all (i := z2) HO.out (by rw [HXK.out]; exact hk1)
                rw [HXK.out] at h
                exact h
              have y1 : wr.cell? ⟨w5.heap.size, z2 * k, none⟩ = some (.int .i64 (b01 (cov x.L z2))) := by
                have h := ownsRow_cell HN3.out (bitV_get hy)
                rw [hv] at h
                exact h
              have hH := fun w (h : Below w5.heap.size w5 w) => bhas_any x z2 w (HS5.out.below h).at_ (by omega)
              rw [HS.out.b_] at hH
              obtain ⟨cb, hcb⟩ : ∃ cb, cb = cov x.L z2 := ⟨_, rfl⟩
              rw [← hcb] at y1 hH
              clear hcb hv
              obtain ⟨x0, x1, x2, x3⟩ := blk4 hbx
              generalize z2 * k = y at *
              obtain ⟨G, hne, F, hF, hG⟩ := fam_of wr
              have HF := Lib.hid hF
              have hw7 : ∀ g p v, wr.cell? p = some v → (F g).cell? p = some v := fun g p v hc => (World.cell?_of_block (w := wr) ((hF g).block _ (World.block_lt_of_cell? _ _ hc))).trans hc
              have f1 := fun g => hw7 g _ _ x1
              have f2 := fun g => hw7 g _ _ y1
              have hd : ∃ g, { wr with drawn := wr.drawn + 1 } = F g := hG _ (below_drewN (Below.refl _ wr) 1)
              have HD' := Lib.hid hd
              have KHA : Hid (∀ g, Calls Try.prog 12 #[.pointer (some ⟨b, 0, none⟩), .int .i64 (z2 : Int)] (F g) fun e w' => e = .returned (.bool cb) ∧ ∃ g', w' = F g') := fun g => fam_call hF hG (hH (F g) (bmore HM5.out (hF g) HM5.out.size))
              have j1 : (0 : Int) ≤ (y : Int) := by omega
              have j2 : (y : Int) < (s : Int) := by omega
              clear hd hF hG hw7 x0 x1 x2 x3 y1 hH hbx hm
              cases cb with
              | true =>
                go_wp2_with fail
                refine wp_region_fam F (by kernel_rfl) (by kernel_rfl) HD'.out ?_
                repeat (go_big_quiet_step (first
                  | (go_at_call 12; exact KHA.out _)))
                refine wpQuiet_nil ?_
                intro w8 hw'
                obtain ⟨g, hw'⟩ := hw'
                subst hw'
                have HM8 := Lib.hid (bmore HM2.out (HF.out g) HM2.out.size)
                clear f1 f2
                go_wp2
                go_roundw
                case rel => exact ⟨z2 + 1, by omega, by go_num, HM8⟩
                case measure => simp [intOf]; omega
              | false =>
                go_wp2_with fail
                refine wp_region_fam F (by kernel_rfl) (by kernel_rfl) HD'.out ?_
                repeat (go_big_quiet_step (first
                  | (go_at_call 12; exact KHA.out _)))
                refine wpQuiet_nil ?_
                intro w8 hw'
                obtain ⟨g, hw'⟩ := hw'
                subst hw'
                have HM8 := Lib.hid (bmore HM2.out (HF.out g) HM2.out.size)
                clear f1 f2
                go_wp2
                go_roundw
                case rel => exact ⟨z2 + 1, by omega, by go_num, HM8⟩
                case measure => simp [intOf]; omega
            · go_wp2_with fail
              refine (awake_any wr).mono ?_
              rintro e w7 ⟨rfl, hb7⟩
              have HB7 := Lib.hid (bmore (bmore HBB0.out (bmore HS5.out.bel HM5.out HS5.out.bel.size) HBB0.out.size) hb7 (Nat.le_trans HBB0.out.size (Nat.le_trans HS5.out.bel.size HM5.out.size)))
              clear hb7
              go_wp2
              go_ret
              exact ⟨rfl, HB7.out⟩
theorem buildLog_any (s k n : Int) (v : Value) (ops : List OpB) (w : World) (h : OpsIn w v ops) :
    Calls Try.prog 3 #[.agg #[.int .i64 s, .int .i64 k, .int .i64 n, v]] w fun e w' => e = .returned (.bool true) ∧ Below w.heap.size w w' := by
  obtain ⟨A, c, rfl, -⟩ := h.rd.val
  cases hz : rightC s k n ops.length with
  | false => exact log_no s k n A _ c w hz
  | true =>
    obtain ⟨s', k', n', rfl, rfl, rfl, hp, h4, hm⟩ := rightC_ok hz
    exact log_yes s' k' n' A _ c ops w hz hp h4 hm h rfl
end Go.Proofs.Ythjlbbbkghigfaa
