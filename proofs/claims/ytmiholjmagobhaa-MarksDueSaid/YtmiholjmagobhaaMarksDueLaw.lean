/- marks: the law Due is walked. -/
import Derived.Test.YtmiholjmagobhaaMarksAwake
import Derived.Test.YtmiholjmagobhaaMarksCount
namespace Go.Proofs.Ytmiholjmagobhaa
open Go.RowKit
set_option linter.unusedVariables false
set_option linter.unusedSimpArgs false

def cells8 (f : Nat → Nat) : Array Value := #[.int .i64 (f 0), .int .i64 (f 1), .int .i64 (f 2), .int .i64 (f 3), .int .i64 (f 4), .int .i64 (f 5), .int .i64 (f 6), .int .i64 (f 7)]
theorem cells8_at (f : Nat → Nat) {n : Nat} (h : n < 8) : (cells8 f)[n]? = some (.int .i64 (f n)) := by
  rcases n with _|_|_|_|_|_|_|_|n <;> first | rfl | omega
theorem cells8_set (f : Nat → Nat) {n : Nat} (h : n < 8) (x : Nat) : (cells8 f).setIfInBounds n (.int .i64 x) = cells8 (fun i => if i = n then x else f i) := by
  rcases n with _|_|_|_|_|_|_|_|n <;> first | rfl | omega

def cf (t p : Int) (q s : Nat) : Nat → Nat := fun n => if n < q then cnt t p s n else 0
theorem cf_next (t p : Int) (q s : Nat) : (fun n => cf t p q s n + (dueL (t + 8 + (s : Int)) p q).count (n : Int)) = cf t p q (s + 1) := by
  funext n
  unfold cf
  rw [dueL_count, cnt_succ]
  by_cases h : n < q <;> simp [h]

set_option maxRecDepth 100000 in
set_option maxHeartbeats 2000000 in
theorem marksDue_no (t p n : Int) (w : World) (h : ¬ DueOk t p n) :
    Calls Try.prog 4 #[.int .i64 t, .int .i64 p, .int .i64 n] w fun e w' => e = .returned (.bool true) ∧ Below w.heap.size w w' := by
  have hd := due_no t p n w h
  unfold DueOk at h
  rcases (by omega : t < 0 ∨ (0 ≤ t ∧ p < 1) ∨ (0 ≤ t ∧ 1 ≤ p ∧ 65536 < p) ∨ (0 ≤ t ∧ 1 ≤ p ∧ p ≤ 65536 ∧ n < 1) ∨ (0 ≤ t ∧ 1 ≤ p ∧ p ≤ 65536 ∧ 1 ≤ n ∧ 8 < n)) with
    g1 | ⟨g1, g2⟩ | ⟨g1, g2, g3⟩ | ⟨g1, g2, g3, g4⟩ | ⟨g1, g2, g3, g4, g5⟩
  all_goals
    clear h
    go_enter Try.func4, Try.ntmps4
    go_wp2_with fail
    refine hd.mono ?_
    rintro e w ⟨rfl, rfl⟩
    go_wp2_with fail
    refine (awake23 _).mono ?_
    rintro e w1 ⟨rfl, hb⟩
    go_wp2
    go_ret
    exact ⟨rfl, hb⟩

set_option maxRecDepth 100000 in
set_option maxHeartbeats 4000000 in
theorem marksDue_yes (t p : Int) (n : Nat) (w : World) (h : DueOk t p n) (ht : t ≤ 9223372036854775807) :
    Calls Try.prog 4 #[.int .i64 t, .int .i64 p, .int .i64 n] w fun e w' => e = .returned (.bool true) ∧ Below w.heap.size w w' := by
  have hd := due_yes t p n w h ht
  obtain ⟨g1, g2, g3, g4, g5⟩ := h
  go_enter Try.func4, Try.ntmps4
  go_wp2_with fail
  refine hd.mono ?_
  rintro e w1 ⟨A1, c1, rfl, ho, hb1⟩
  have hR := Lib.hid (Reads.of_owns ho)
  have hll := dueL_len t p n
  obtain ⟨L, hL⟩ : ∃ L, L = (dueL t p n).length := ⟨_, rfl⟩
  have HL := Lib.hid hL
  rw [← hL] at hR hll ⊢
  clear hd ho hL
  go_wp2_with fail
  go_loop [8, 9, 44] (fun k _ i => ∃ q : Nat, q ≤ n ∧ i = .int .i64 q ∧ k = .int .i64 (dueL t p q).length) (fun _ _ i => n - (intOf i).toNat)
  case atStart => exact ⟨0, by omega, rfl, rfl⟩
  case round =>
    obtain ⟨q, hq, rfl, rfl⟩ := hrel
    have hql := dueL_len t p q
    by_cases hlt : q < n
    · by_cases hdq : dueB t p q = true
      · have hat := dueL_at (n := n) hlt hdq
        have hlt2 : (dueL t p q).length < L := by rw [HL.out]; exact (List.getElem?_eq_some_iff.1 hat).1
        obtain ⟨g, o, c', he, hc⟩ := hR.out.at (dueL t p q).length (.int .i64 q) (by simp [hat])
        cases he
        have hd2 := hdq
        simp only [dueB, Bool.and_eq_true, decide_eq_true_eq] at hd2
        obtain ⟨d1, d2⟩ := hd2
        have d3 : ((t - (q : Int)) % p != 0) = false := by rw [d2]; rfl
        have HD := Lib.hid (show (dueL t p (q + 1)).length = (dueL t p q).length + 1 by rw [dueL_yes hdq]; simp)
        have d4 : 0 ≤ t - (q : Int) := by omega
        clear d2 hdq hat
        generalize (dueL t p q).length = K at *
        go_wp2_with fail
        go_round
        case rel => exact ⟨q + 1, by omega, by go_num, by rw [HD.out]; simp⟩
        case measure => simp [intOf]; omega
      · have hd' : dueB t p q = false := by simpa using hdq
        have HD := Lib.hid (dueL_no hd')
        rcases (by
          simp only [dueB, Bool.and_eq_false_iff, decide_eq_false_iff_not] at hd'
          by_cases d1 : (q : Int) ≤ t
          · exact .inr ⟨d1, by rw [bne_iff_ne]; exact hd'.resolve_left (fun h => h d1)⟩
          · exact .inl (by omega) : t < (q : Int) ∨ ((q : Int) ≤ t ∧ ((t - (q : Int)) % p != 0) = true)) with d1 | ⟨d1, d2⟩
        · clear hdq hd'
          go_wp2
          go_round
          case rel => exact ⟨q + 1, by omega, by go_num, by rw [HD.out]⟩
          case measure => simp [intOf]; omega
        · have d4 : 0 ≤ t - (q : Int) := by omega
          clear hdq hd'
          go_wp2
          go_round
          case rel => exact ⟨q + 1, by omega, by go_num, by rw [HD.out]⟩
          case measure => simp [intOf]; omega
    · obtain rfl : q = n := by omega
      rw [← HL.out]
      by_cases g6 : 200 < p
      · go_wp2_with fail
        refine (awake23 _).mono ?_
        rintro e w2 ⟨rfl, hb2⟩
        go_wp2
        go_ret
        exact ⟨rfl, bmore hb1 hb2 hb1.size⟩
      by_cases g7 : 1099511627776 < t
      · go_wp2_with fail
        refine (awake23 _).mono ?_
        rintro e w2 ⟨rfl, hb2⟩
        go_wp2
        go_ret
        exact ⟨rfl, bmore hb1 hb2 hb1.size⟩
      obtain ⟨pn, rfl⟩ := Int.eq_ofNat_of_zero_le (show 0 ≤ p by omega)
      go_wp2_with fail
      have hB0 : Blk (w1.alloc (.cells #[.int .i64 0, .int .i64 0, .int .i64 0, .int .i64 0, .int .i64 0, .int .i64 0, .int .i64 0, .int .i64 0] 36)) w1.heap.size (cells8 (cf t pn q 0)) 36 := by
        have e : cells8 (cf t pn q 0) = #[.int .i64 0, .int .i64 0, .int .i64 0, .int .i64 0, .int .i64 0, .int .i64 0, .int .i64 0, .int .i64 0] := by simp [cells8, cf, cnt]
        rw [e]; exact Blk.new _ _ _
      have q1 := hb1.alloc hb1.size (.cells #[.int .i64 0, .int .i64 0, .int .i64 0, .int .i64 0, .int .i64 0, .int .i64 0, .int .i64 0, .int .i64 0] 36)
      have hcb : w.heap.size ≤ w1.heap.size := hb1.size
      generalize w1.alloc (.cells #[.int .i64 0, .int .i64 0, .int .i64 0, .int .i64 0, .int .i64 0, .int .i64 0, .int .i64 0, .int .i64 0] 36) = w2 at *
      generalize w1.heap.size = cb at *
      clear hR HL hb1 hll hql
      go_loopw [11, 13, 85] (fun _ _ i wr => ∃ s : Nat, s ≤ pn ∧ i = .int .i64 s ∧ Hid (Blk wr cb (cells8 (cf t pn q s)) 36) ∧ Below w.heap.size w wr) (fun _ _ i _ => pn - (intOf i).toNat)
      case atStart => exact ⟨0, by omega, rfl, hB0, q1⟩
      case round =>
        clear hB0 q1
        obtain ⟨s, hs, rfl, hB, hb⟩ := hrel
        by_cases hlt2 : s < pn
        · have hdu := due_yes (t + 8 + (s : Int)) pn q wr ⟨by omega, by omega, by omega, by omega, by omega⟩ (by omega)
          have hDl := dueL_len (t + 8 + (s : Int)) pn q
          have hMEM : Hid (∀ (j : Nat) (x : Int), (dueL (t + 8 + (s : Int)) pn q)[j]? = some x → ∃ l : Nat, l < q ∧ x = l) := fun j x hx => by
            obtain ⟨l, h1, h2, -⟩ := dueL_mem hx
            exact ⟨l, h1, h2⟩
          have hCF := Lib.hid (cf_next t pn q s)
          obtain ⟨D, hD⟩ : ∃ D, D = dueL (t + 8 + (s : Int)) pn q := ⟨_, rfl⟩
          rw [← hD] at hdu hDl hMEM hCF
          have hlt3 := hB.out.lt
          clear hD
          go_wp2_with fail
          refine hdu.mono ?_
          rintro e w3 ⟨A3, c3, rfl, ho3, hb3⟩
          have hB3 := (Hid.out hB).keep (Keep.none hb3) id
          have q3 := bmore hb hb3 hb.size
          have hsz : wr.heap.size ≤ w3.heap.size := hb3.size
          clear hdu hB hb hb3
          obtain ⟨w4, rfl⟩ : ∃ w4 : World, w4 = wr := ⟨_, rfl⟩
          go_wp2_with fail
          go_loopw [13, 96] (fun _ j wr => ∃ m : Nat, m ≤ D.length ∧ j = .int .i64 m ∧ Hid (Blk wr cb (cells8 (fun n => cf t pn q s n + (D.take m).count (n : Int))) 36) ∧ Hid (wr.ownsRow w4.heap.size 3 1 (.slice A3 D.length c3) D.length (D.map (Value.int .i64))) ∧ Below w.heap.size w wr) (fun _ j _ => D.length - (intOf j).toNat)
          case atStart => exact ⟨0, by omega, rfl, by show Blk _ _ _ _; simpa using hB3, ho3, q3⟩
          case round =>
            clear hB3 ho3 q3
            obtain ⟨m, hm, rfl, hB, ho, hb⟩ := hrel
            by_cases hlt4 : m < D.length
            · have hx := List.getElem?_eq_getElem hlt4
              obtain ⟨l, hl, hxl⟩ := hMEM.out m _ hx
              rw [hxl] at hx
              obtain ⟨g, o, c', he, hc⟩ := (Reads.of_owns (Hid.out ho)).at m (.int .i64 l) (by simp [hx])
              cases he
              have hgl := (ho.out.lt g rfl).1
              have h8 : l < 8 := by omega
              have hcc := hB.out.cell _ (cells8_at _ h8)
              have hcf := hB.out.frozen l
              have l0 : (0 : Int) ≤ (l : Int) := by omega
              have l1 : (l : Int) < (q : Int) := by omega
              have l2 : (l : Int) < 8 := by omega
              have HT : Hid ((fun i => if i = l then cf t pn q s l + (D.take m).count (l : Int) + 1 else cf t pn q s i + (D.take m).count (i : Int)) = (fun n => cf t pn q s n + (D.take (m + 1)).count (n : Int))) := by
                show _ = _
                funext n
                rw [take_count D m l n hx]
                by_cases e : n = l
                · subst e; simp; omega
                · rw [if_neg e, if_neg (by omega)]; rfl
              have hbound : cf t pn q s l + (D.take m).count (l : Int) ≤ 100000 := by
                have h1 : (D.take m).count (l : Int) ≤ 8 := Nat.le_trans List.count_le_length (by simp; omega)
                have h2 : cf t pn q s l ≤ s := by
                  unfold cf cnt
                  split
                  · exact Nat.le_trans (List.length_filter_le _ _) (by simp)
                  · omega
                omega
              generalize hN : cf t pn q s l + (D.take m).count (l : Int) = N at *
              have HN := Lib.hid hN
              clear hx hxl hN
              go_wp2_with fail
              go_roundw
              case rel =>
                refine ⟨m + 1, by omega, by go_num, ?_, ownsRow_keep (Hid.out ho) ((Keep.refl (fun k => k = cb) wr).setCell (p := ⟨cb, l, none⟩) (Or.inl rfl) _) (fun g' hg' e => by have := (ho.out.lt g' hg').1; omega), hb.setCell (by simpa using hcb) _⟩
                have := hB.out.set' (cells8_set _ h8 (N + 1))
                rw [HT.out] at this
                exact this
              case measure => simp [intOf]; omega
            · obtain rfl : m = D.length := by omega
              have hB' : Hid (Blk wr cb (cells8 (cf t pn q (s + 1))) 36) := by
                have := hB.out
                rw [List.take_length, hCF.out] at this
                exact this
              clear hB
              go_wp2_with fail
              go_roundw
              case rel => exact ⟨s + 1, by omega, by go_num, hB', hb⟩
              case measure => simp [intOf]; omega
        · obtain rfl : s = pn := by omega
          have hall : ∀ l, l < q → wr.cell? ⟨cb, l, none⟩ = some (.int .i64 1) := fun l hl => by
            have := hB.out.cell _ (cells8_at _ (show l < 8 by omega))
            rw [this]
            have e := cnt_one t s l (by omega) g1 (by omega)
            rw [Int.toNat_natCast] at e
            simp [cf, hl, e]
          have HA := Lib.hid hall
          clear hall hB
          obtain ⟨w4, rfl⟩ : ∃ w4 : World, w4 = wr := ⟨_, rfl⟩
          go_wp2_with fail
          go_loop [14, 115] (fun _ i => ∃ l : Nat, l ≤ q ∧ i = .int .i64 l) (fun _ i => q - (intOf i).toNat)
          case atStart => exact ⟨0, by omega, rfl⟩
          case round =>
            obtain ⟨l, hl, rfl⟩ := hrel
            by_cases hlt5 : l < q
            · have hc := HA.out l hlt5
              have l2 : (l : Int) < 8 := by omega
              go_wp2_with fail
              go_round
              case rel => exact ⟨l + 1, by omega, by go_num⟩
              case measure => simp [intOf]; omega
            · obtain rfl : l = q := by omega
              go_wp2_with fail
              refine (awake23 _).mono ?_
              rintro e w2 ⟨rfl, hb2⟩
              go_wp2
              go_ret
              exact ⟨rfl, bmore hb hb2 hb.size⟩

theorem marksDue_any (t p n : Int) (w : World) (ht : (Lit.int .i64 t).wf = true) :
    Calls Try.prog 4 #[.int .i64 t, .int .i64 p, .int .i64 n] w fun e w' => e = .returned (.bool true) ∧ Below w.heap.size w w' := by
  have ht2 : t ≤ 9223372036854775807 := by
    simp [Lit.wf, IntKind.min, IntKind.max, IntKind.signed, IntKind.bits] at ht
    omega
  by_cases h : DueOk t p n
  · obtain ⟨m, rfl⟩ := Int.eq_ofNat_of_zero_le (show 0 ≤ n by have := h.2.2.2.1; omega)
    exact marksDue_yes t p m w h ht2
  · exact marksDue_no t p n w h
end Go.Proofs.Ytmiholjmagobhaa
