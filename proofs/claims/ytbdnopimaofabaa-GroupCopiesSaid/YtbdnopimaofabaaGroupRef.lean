/- group: the document's answers; wrong; right; played. -/
import Derived.Test.YtbdnopimaofabaaGroup3
import Derived.Test.YtbdnopimaofabaaRead
namespace Go.Proofs.Ytbdnopimaofabaa
open Go.RowKit
set_option linter.unusedVariables false
set_option linter.unusedSimpArgs false

structure AskD where
  r : Int
  level : Int
  now : Int
def askCells (a : AskD) : List Value := [.int .i64 a.r, .int .i64 a.level, .int .i64 a.now]
theorem askCells_len (a : AskD) : (askCells a).length = 3 := rfl
theorem info_ask : (Try.prog.info? 47).map (fun i => (i.zero, i.size, i.bytes)) = some (some (.agg #[.int .i64 0, .int .i64 0, .int .i64 0]), 3, 24) := by kernel_rfl
/-- asks as they lie in memory -/
def Asks (w : World) (v : Value) (x : List AskD) : Prop := Reads w 3 v x.length (x.flatMap askCells)
theorem Asks.at {w : World} {v : Value} {x : List AskD} (h : Asks w v x) {k : Nat} {a : AskD} (hk : x[k]? = some a) : ∃ g p c, v = .slice (some ⟨g, p, none⟩) x.length c ∧ w.cell? ⟨g, p + k * 3, none⟩ = some (.int .i64 a.r) ∧ w.cell? ⟨g, p + k * 3 + 1, none⟩ = some (.int .i64 a.level) ∧ w.cell? ⟨g, p + k * 3 + 2, none⟩ = some (.int .i64 a.now) := by
  obtain ⟨g, p, c, he, hc⟩ := Reads.elem h askCells_len (by omega) hk
  exact ⟨g, p, c, he, hc 0 _ rfl, hc 1 _ rfl, hc 2 _ rfl⟩

/-- a receiver behind what was asked -/
def rstep (j lv r : Int) (s : One) (a : AskD) : One := if a.r = r then stp j lv s a.level a.now else s
def rfold (j lv r : Int) (x : List AskD) : One := x.foldl (rstep j lv r) one0
theorem rfold_snoc (j lv r : Int) (x : List AskD) (a : AskD) : rfold j lv r (x ++ [a]) = rstep j lv r (rfold j lv r x) a := by unfold rfold; rw [List.foldl_append]; rfl
theorem rfold_take (j lv r : Int) (x : List AskD) (k : Nat) (a : AskD) (h : x[k]? = some a) : rfold j lv r (x.take (k + 1)) = rstep j lv r (rfold j lv r (x.take k)) a := by
  rw [List.take_add_one, h]; exact rfold_snoc ..

set_option maxRecDepth 100000 in
set_option maxHeartbeats 400000 in
theorem last_any (j lv : Int) (v : Value) (x : List AskD) (r : Int) (w : World) (h : Asks w v x) (hn : x.length ≤ 1000000) :
    Calls Try.prog 10 #[v, .int .i64 r] w fun e w' => e = .returned (.tuple #[.int .i64 (rfold j lv r x).asked, .int .i64 (rfold j lv r x).next]) ∧ w = w' := by
  obtain ⟨A, c, rfl, -⟩ := h.val
  have H := Lib.hid h
  clear h
  go_enter Try.func10, Try.ntmps10
  go_wp2
  go_loop [6, 7, 8] (fun n l i => ∃ k : Nat, k ≤ x.length ∧ i = .int .i64 k ∧ n = .int .i64 (rfold j lv r (x.take k)).asked ∧ l = .int .i64 (rfold j lv r (x.take k)).next) (fun _ _ i => x.length - (intOf i).toNat)
  case atStart => exact ⟨0, by omega, rfl, rfl, rfl⟩
  case round =>
    obtain ⟨k, hk, rfl, rfl, rfl⟩ := hrel
    by_cases hlt : k < x.length
    · have ha := List.getElem?_eq_getElem hlt
      obtain ⟨a, hae⟩ : ∃ a, a = x[k] := ⟨_, rfl⟩
      rw [← hae] at ha
      obtain ⟨g, p, c', he, a0, a1, a2⟩ := H.out.at ha
      cases he
      have HT := Lib.hid (rfold_take j lv r x k a ha)
      generalize rfold j lv r (x.take k) = s at *
      have i1 : (0 : Int) ≤ (k : Int) := by omega
      have i2 : (k : Int) < (x.length : Int) := by omega
      clear ha hae
      by_cases hr : a.r = r
      · have HR := Lib.hid hr
        have t1 : (a.r == r) = true := by rw [beq_iff_eq]; exact hr
        clear hr
        go_wp2
        go_round
        case rel => exact ⟨k + 1, by omega, by go_num, by rw [HT.out]; unfold rstep; rw [if_pos HR.out]; rfl, by rw [HT.out]; unfold rstep; rw [if_pos HR.out]; rfl⟩
        case measure => simp [intOf]; omega
      · have HR := Lib.hid hr
        have t1 : (a.r == r) = false := by rw [beq_eq_false_iff_ne]; exact hr
        clear hr
        go_wp2
        go_round
        case rel => exact ⟨k + 1, by omega, by go_num, by rw [HT.out]; unfold rstep; rw [if_neg HR.out], by rw [HT.out]; unfold rstep; rw [if_neg HR.out]⟩
        case measure => simp [intOf]; omega
    · obtain rfl : k = x.length := by omega
      rw [List.take_length]
      go_wp2
      go_ret2
      exact ⟨rfl, rfl⟩

/-- asks that were taken in -/
def AsksOk (x : List AskD) : Prop := ∀ a ∈ x, 0 ≤ a.now ∧ a.now ≤ 1099511627776
set_option maxRecDepth 100000 in
set_option maxHeartbeats 400000 in
theorem rlevel_any (j lv : Int) (v : Value) (x : List AskD) (r now : Int) (w : World) (h : Asks w v x) (hn : x.length ≤ 1000000) (hok : AsksOk x) (hjl : 0 ≤ j ∧ j ≤ 64 ∧ 0 ≤ lv ∧ lv ≤ 64) :
    Calls Try.prog 12 #[v, .int .i64 r, .int .i64 j, .int .i64 lv, .int .i64 now] w fun e w' => e = .returned (.int .i64 ((rfold j lv r x).at now)) ∧ Below w.heap.size w w' := by
  obtain ⟨A, c, rfl, -⟩ := h.val
  obtain ⟨k1, k2, k3, k4⟩ := hjl
  have H := Lib.hid h
  have HOK := Lib.hid hok
  clear h hok
  go_enter Try.func12, Try.ntmps12
  go_wp2
  go_loopw [11, 12, 13, 14, 15] (fun l n d i _ wr => ∃ k : Nat, k ≤ x.length ∧ i = .int .i64 k ∧ l = .int .i64 (rfold j lv r (x.take k)).level ∧ n = .int .i64 (rfold j lv r (x.take k)).next ∧ d = .int .i64 (rfold j lv r (x.take k)).due ∧ Below w.heap.size w wr) (fun _ _ _ i _ _ => x.length - (intOf i).toNat)
  case atStart => exact ⟨0, by omega, rfl, rfl, rfl, rfl, Below.refl _ _⟩
  case round =>
    obtain ⟨k, hk, rfl, rfl, rfl, rfl, hb⟩ := hrel
    have hs := hb.size
    by_cases hlt : k < x.length
    · have ha := List.getElem?_eq_getElem hlt
      obtain ⟨a, hae⟩ : ∃ a, a = x[k] := ⟨_, rfl⟩
      rw [← hae] at ha
      obtain ⟨n0, n1⟩ := HOK.out a (List.mem_of_getElem? ha)
      obtain ⟨g, p, c', he, a0, a1, a2⟩ := Asks.at (Reads.below H.out hb) ha
      cases he
      have HT := Lib.hid (rfold_take j lv r x k a ha)
      generalize rfold j lv r (x.take k) = s at *
      have i1 : (0 : Int) ≤ (k : Int) := by omega
      have i2 : (k : Int) < (x.length : Int) := by omega
      clear ha hae
      by_cases hr : a.r = r
      · have hT : rfold j lv r (x.take (k + 1)) = stp j lv s a.level a.now := by rw [HT.out]; unfold rstep; rw [if_pos hr]
        have t1 : (a.r != r) = false := by rw [bne_eq_false_iff_eq]; exact hr
        by_cases hd : s.due ≤ a.now
        · have hat : s.at a.now = s.next := by unfold One.at; rw [if_pos hd]
          have hT2 : rfold j lv r (x.take (k + 1)) = ⟨s.next, a.level, a.now + (if s.next < a.level then j else lv), a.now⟩ := by rw [hT]; unfold stp; rw [hat]
          by_cases hl : s.next < a.level
          · rw [if_pos hl] at hT2
            have HT2 := Lib.hid hT2
            clear hT hT2 hat hr
            go_wp2
            go_roundw
            case rel => exact ⟨k + 1, by omega, by go_num, by rw [HT2.out], by rw [HT2.out], by rw [HT2.out], hb.alloc hs _⟩
            case measure => simp [intOf]; omega
          · rw [if_neg hl] at hT2
            have HT2 := Lib.hid hT2
            clear hT hT2 hat hr
            go_wp2
            go_roundw
            case rel => exact ⟨k + 1, by omega, by go_num, by rw [HT2.out], by rw [HT2.out], by rw [HT2.out], hb.alloc hs _⟩
            case measure => simp [intOf]; omega
        · have hat : s.at a.now = s.level := by unfold One.at; rw [if_neg hd]
          have hT2 : rfold j lv r (x.take (k + 1)) = ⟨s.level, a.level, a.now + (if s.level < a.level then j else lv), a.now⟩ := by rw [hT]; unfold stp; rw [hat]
          by_cases hl : s.level < a.level
          · rw [if_pos hl] at hT2
            have HT2 := Lib.hid hT2
            clear hT hT2 hat hr
            go_wp2
            go_roundw
            case rel => exact ⟨k + 1, by omega, by go_num, by rw [HT2.out], by rw [HT2.out], by rw [HT2.out], hb.alloc hs _⟩
            case measure => simp [intOf]; omega
          · rw [if_neg hl] at hT2
            have HT2 := Lib.hid hT2
            clear hT hT2 hat hr
            go_wp2
            go_roundw
            case rel => exact ⟨k + 1, by omega, by go_num, by rw [HT2.out], by rw [HT2.out], by rw [HT2.out], hb.alloc hs _⟩
            case measure => simp [intOf]; omega
      · have hT : rfold j lv r (x.take (k + 1)) = s := by rw [HT.out]; unfold rstep; rw [if_neg hr]
        have t1 : (a.r != r) = true := by rw [bne_iff_ne]; exact hr
        have HT2 := Lib.hid hT
        clear hT hr
        go_wp2
        go_roundw
        case rel => exact ⟨k + 1, by omega, by go_num, by rw [HT2.out], by rw [HT2.out], by rw [HT2.out], hb.alloc hs _⟩
        case measure => simp [intOf]; omega
    · obtain rfl : k = x.length := by omega
      rw [List.take_length]
      by_cases hd : (rfold j lv r x).due ≤ now
      · have HA : Hid ((rfold j lv r x).at now = (rfold j lv r x).next) := by show One.at _ _ = _; unfold One.at; rw [if_pos hd]
        go_wp2
        go_ret
        exact ⟨ret_int HA.out.symm, hb⟩
      · have HA : Hid ((rfold j lv r x).at now = (rfold j lv r x).level) := by show One.at _ _ = _; unfold One.at; rw [if_neg hd]
        go_wp2
        go_ret
        exact ⟨ret_int HA.out.symm, hb⟩

instance (n : Nat) (r level now : Int) : Decidable (AskOk n r level now) := by unfold AskOk; infer_instance
/-- the error that the document says -/
def wrongN (j lv : Int) (x : List AskD) (n : Nat) (a : AskD) : Int := if AskOk n a.r a.level a.now then (if a.now < (rfold j lv a.r x).asked then 23 else 0) else 11
set_option maxRecDepth 100000 in
set_option maxHeartbeats 400000 in
theorem wrong_any (j lv : Int) (v : Value) (x : List AskD) (n : Nat) (a : AskD) (w : World) (h : Asks w v x) (hn : x.length ≤ 1000000) :
    Calls Try.prog 18 #[v, .int .i64 n, .agg #[.int .i64 a.r, .int .i64 a.level, .int .i64 a.now]] w fun e w' => e = .returned (.int .i64 (wrongN j lv x n a)) ∧ Below w.heap.size w w' := by
  obtain ⟨A, c, rfl, -⟩ := h.val
  have HL := Lib.hid (fun W (hW : Asks W (.slice A x.length c) x) => last_any j lv _ x a.r W hW hn)
  have H := Lib.hid h
  unfold wrongN
  by_cases hok : AskOk n a.r a.level a.now
  · rw [if_pos hok]
    obtain ⟨s, hs⟩ : ∃ s, s = rfold j lv a.r x := ⟨_, rfl⟩
    rw [← hs] at HL ⊢
    obtain ⟨h1, h2, h3, h4, h5, h6⟩ := hok
    have t1 : decide (a.r < 0) = false := decide_eq_false (by omega)
    have t2 : decide ((n : Int) ≤ a.r) = false := decide_eq_false (by omega)
    have t3 : decide (a.level < -1) = false := decide_eq_false (by omega)
    have t4 : decide (7 < a.level) = false := decide_eq_false (by omega)
    have t5 : decide (a.now < 0) = false := decide_eq_false (by omega)
    have t6 : decide (1099511627776 < a.now) = false := decide_eq_false (by omega)
    clear hs h
    by_cases hst : a.now < s.asked
    · rw [if_pos hst]
      go_enter Try.func18, Try.ntmps18
      go_wp2_with fail
      refine (HL.out _ (Reads.alloc H.out _)).mono ?_
      rintro e w' ⟨rfl, rfl⟩
      go_wp2
      go_ret
      exact ⟨rfl, (Below.refl _ _).alloc (Nat.le_refl _) _⟩
    · rw [if_neg hst]
      go_enter Try.func18, Try.ntmps18
      go_wp2_with fail
      refine (HL.out _ (Reads.alloc H.out _)).mono ?_
      rintro e w' ⟨rfl, rfl⟩
      go_wp2
      go_ret
      exact ⟨rfl, (Below.refl _ _).alloc (Nat.le_refl _) _⟩
  · rw [if_neg hok]
    unfold AskOk at hok
    clear h HL H
    rcases (by omega : a.r < 0 ∨ (0 ≤ a.r ∧ (n : Int) ≤ a.r) ∨ (0 ≤ a.r ∧ a.r < n ∧ a.level < -1) ∨ (0 ≤ a.r ∧ a.r < n ∧ -1 ≤ a.level ∧ 7 < a.level) ∨ (0 ≤ a.r ∧ a.r < n ∧ -1 ≤ a.level ∧ a.level ≤ 7 ∧ a.now < 0) ∨ (0 ≤ a.r ∧ a.r < n ∧ -1 ≤ a.level ∧ a.level ≤ 7 ∧ 0 ≤ a.now ∧ 1099511627776 < a.now)) with
      g1 | ⟨g0, g1⟩ | ⟨g0, g1, g2⟩ | ⟨g0, g1, g2, g3⟩ | ⟨g0, g1, g2, g3, g4⟩ | ⟨g0, g1, g2, g3, g4, g5⟩
    all_goals
      clear hok
      go_enter Try.func18, Try.ntmps18
      go_wp2
      all_goals
        go_ret
        exact ⟨rfl, (Below.refl _ _).alloc (Nat.le_refl _) _⟩

/-- may there be such a case? -/
def CaseR (n j lv : Int) (k : Nat) : Prop := GrpOk n j lv ∧ k ≤ 60
set_option maxRecDepth 100000 in
set_option maxHeartbeats 400000 in
theorem right_yes (n j lv : Int) (A : Option Addr) (k c : Nat) (w : World) (h : CaseR n j lv k) :
    Calls Try.prog 7 #[.agg #[.int .i64 n, .int .i64 j, .int .i64 lv, .slice A k c]] w fun e w' => e = .returned (.bool true) ∧ Below w.heap.size w w' := by
  obtain ⟨⟨h1, h2, h3, h4, h5, h6⟩, h7⟩ := h
  have t1 : decide (1 ≤ n) = true := decide_eq_true h1
  have t2 : decide (n ≤ 64) = true := decide_eq_true h2
  have t3 : decide (0 ≤ j) = true := decide_eq_true h3
  have t4 : decide (j ≤ 64) = true := decide_eq_true h4
  have t5 : decide (0 ≤ lv) = true := decide_eq_true h5
  have t6 : decide (lv ≤ 64) = true := decide_eq_true h6
  have t7 : decide ((k : Int) ≤ 60) = true := decide_eq_true (by omega)
  go_enter Try.func7, Try.ntmps7
  go_wp2
  go_ret
  exact ⟨rfl, (Below.refl _ _).alloc (Nat.le_refl _) _⟩
set_option maxRecDepth 100000 in
set_option maxHeartbeats 400000 in
theorem right_no (n j lv : Int) (A : Option Addr) (k c : Nat) (w : World) (h : ¬ CaseR n j lv k) :
    Calls Try.prog 7 #[.agg #[.int .i64 n, .int .i64 j, .int .i64 lv, .slice A k c]] w fun e w' => e = .returned (.bool false) ∧ Below w.heap.size w w' := by
  unfold CaseR GrpOk at h
  rcases (by omega : n < 1 ∨ (1 ≤ n ∧ 64 < n) ∨ (1 ≤ n ∧ n ≤ 64 ∧ j < 0) ∨ (1 ≤ n ∧ n ≤ 64 ∧ 0 ≤ j ∧ 64 < j) ∨ (1 ≤ n ∧ n ≤ 64 ∧ 0 ≤ j ∧ j ≤ 64 ∧ lv < 0) ∨ (1 ≤ n ∧ n ≤ 64 ∧ 0 ≤ j ∧ j ≤ 64 ∧ 0 ≤ lv ∧ 64 < lv) ∨ (1 ≤ n ∧ n ≤ 64 ∧ 0 ≤ j ∧ j ≤ 64 ∧ 0 ≤ lv ∧ lv ≤ 64 ∧ 60 < k)) with
    g1 | ⟨g0, g1⟩ | ⟨g0, g1, g2⟩ | ⟨g0, g1, g2, g3⟩ | ⟨g0, g1, g2, g3, g4⟩ | ⟨g0, g1, g2, g3, g4, g5⟩ | ⟨g0, g1, g2, g3, g4, g5, g6⟩
  all_goals
    clear h
    go_enter Try.func7, Try.ntmps7
    go_wp2
    all_goals
      go_ret
      exact ⟨by first | rfl | (refine ret_bool ?_; simp; omega), (Below.refl _ _).alloc (Nat.le_refl _) _⟩
end Go.Proofs.Ytbdnopimaofabaa
