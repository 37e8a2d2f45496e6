/- group: the document's level. -/
import Derived.Test.YtlodiibmofeikaaQCC
import Derived.Test.YtlodiibmofeikaaQAA
namespace Go.Proofs.Ytlodiibmofeikaa
open Go.RowKit
set_option linter.unusedVariables false
set_option linter.unusedSimpArgs false

structure AskD where
  r : Int
  level : Int
  now : Int
def askCells (a : AskD) : List Value := [.int .i64 a.r, .int .i64 a.level, .int .i64 a.now]
theorem askCells_len (a : AskD) : (askCells a).length = 3 := rfl
theorem info_ask : (Try.prog.info? 87).map (fun i => (i.zero, i.size, i.bytes)) = some (some (.agg #[.int .i64 0, .int .i64 0, .int .i64 0]), 3, 24) := by kernel_rfl
/-- asks as they lie in memory -/
def Asks (w : World) (v : Value) (x : List AskD) : Prop := Reads w 3 v x.length (x.flatMap askCells)
theorem Asks.at {w : World} {v : Value} {x : List AskD} (h : Asks w v x) {k : Nat} {a : AskD} (hk : x[k]? = some a) : ∃ g p c, v = .slice (some ⟨g, p, none⟩) x.length c ∧ w.cell? ⟨g, p + k * 3, none⟩ = some (.int .i64 a.r) ∧ w.cell? ⟨g, p + k * 3 + 1, none⟩ = some (.int .i64 a.level) ∧ w.cell? ⟨g, p + k * 3 + 2, none⟩ = some (.int .i64 a.now) := by
  obtain ⟨g, p, c, he, hc⟩ := Reads.elem h askCells_len (by omega) hk
  exact ⟨g, p, c, he, hc 0 _ rfl, hc 1 _ rfl, hc 2 _ rfl⟩

/-- a receiver behind what was asked -/
def rstep (j lv r : Int) (s : One) (a : AskD) : One := if a.r = r then stp j lv s a.level a.now else s
def rfold (j lv r : Int) (x : List AskD) : One := x.foldl (rstep j lv r) one0
theorem rfold_snoc (j lv r : Int) (x : List AskD) (a : AskD) : rfold j lv r (x ++ [a]) = rstep j lv r (rfold j lv r x) a := by unfold rfold; rw [List.foldl_append]; rfl
theorem rfold_take (j lv r : Int) (x : List AskD) (k : Nat) (a : AskD) (h : x[k]? = some a) : rfold j lv r (x.take (k + 1)) = rstep j lv r (rfold j lv r (x.take k)) a := by
  rw [List.take_add_one, h]; exact rfold_snoc ..

/-- asks that were taken in -/
def AsksOk (x : List AskD) : Prop := ∀ a ∈ x, 0 ≤ a.now ∧ a.now ≤ 1099511627776
set_option maxRecDepth 100000 in
set_option maxHeartbeats 400000 in
theorem rlevel_any (j lv : Int) (v : Value) (x : List AskD) (r now : Int) (w : World) (h : Asks w v x) (hn : x.length ≤ 1000000) (hok : AsksOk x) (hjl : 0 ≤ j ∧ j ≤ 64 ∧ 0 ≤ lv ∧ lv ≤ 64) :
    Calls Try.prog 34 #[v, .int .i64 r, .int .i64 j, .int .i64 lv, .int .i64 now] w fun e w' => e = .returned (.int .i64 ((rfold j lv r x).at now)) ∧ Below w.heap.size w w' := by
  obtain ⟨A, c, rfl, -⟩ := h.val
  obtain ⟨k1, k2, k3, k4⟩ := hjl
  have H := Lib.hid h
  have HOK := Lib.hid hok
  clear h hok
  go_enter Try.func34, Try.ntmps34
  go_wp2
  go_loopw [11, 12, 13, 14, 15] (fun l n d i _ wr => ∃ k : Nat, k ≤ x.length ∧ i = .int .i64 k ∧ l = .int .i64 (rfold j lv r (x.take k)).level ∧ n = .int .i64 (rfold j lv r (x.take k)).next ∧ d = .int .i64 (rfold j lv r (x.take k)).due ∧ Below w.heap.size w wr) (fun _ _ _ i _ _ => x.length - (intOf i).toNat)
  case atStart => exact ⟨0, by omega, rfl, rfl, rfl, rfl, Below.refl _ _⟩
  case round =>
    obtain ⟨k, hk, rfl, rfl, rfl, rfl, hb⟩ := hrel
    have hs := hb.size
    by_cases hlt : k < x.length
    · have ha := List.getElem?_eq_getElem hlt
      obtain ⟨a, hae⟩ : ∃ a, a = x[k] := ⟨_, rfl⟩
      rw [← hae] at ha
      obtain ⟨n0, n1⟩ := HOK.out a (List.mem_of_getElem? ha)
      obtain ⟨g, p, c', he, a0, a1, a2⟩ := Asks.at (Reads.below H.out hb) ha
      cases he
      have HT := Lib.hid (rfold_take j lv r x k a ha)
      generalize rfold j lv r (x.take k) = s at *
      have i1 : (0 : Int) ≤ (k : Int) := by omega
      have i2 : (k : Int) < (x.length : Int) := by omega
      clear ha hae
      by_cases hr : a.r = r
      · have hT : rfold j lv r (x.take (k + 1)) = stp j lv s a.level a.now := by rw [HT.out]; unfold rstep; rw [if_pos hr]
        have t1 : (a.r != r) = false := by rw [bne_eq_false_iff_eq]; exact hr
        by_cases hd : s.due ≤ a.now
        · have hat : s.at a.now = s.next := by unfold One.at; rw [if_pos hd]
          have hT2 : rfold j lv r (x.take (k + 1)) = ⟨s.next, a.level, a.now + (if s.next < a.level then j else lv), a.now⟩ := by rw [hT]; unfold stp; rw [hat]
          by_cases hl : s.next < a.level
          · rw [if_pos hl] at hT2
            have HT2 := Lib.hid hT2
            clear hT hT2 hat hr
            go_wp2
            go_roundw
            case rel => exact ⟨k + 1, by omega, by go_num, by rw [HT2.out], by rw [HT2.out], by rw [HT2.out], hb.alloc hs _⟩
            case measure => simp [intOf]; omega
          · rw [if_neg hl] at hT2
            have HT2 := Lib.hid hT2
            clear hT hT2 hat hr
            go_wp2
            go_roundw
            case rel => exact ⟨k + 1, by omega, by go_num, by rw [HT2.out], by rw [HT2.out], by rw [HT2.out], hb.alloc hs _⟩
            case measure => simp [intOf]; omega
        · have hat : s.at a.now = s.level := by unfold One.at; rw [if_neg hd]
          have hT2 : rfold j lv r (x.take (k + 1)) = ⟨s.level, a.level, a.now + (if s.level < a.level then j else lv), a.now⟩ := by rw [hT]; unfold stp; rw [hat]
          by_cases hl : s.level < a.level
          · rw [if_pos hl] at hT2
            have HT2 := Lib.hid hT2
            clear hT hT2 hat hr
            go_wp2
            go_roundw
            case rel => exact ⟨k + 1, by omega, by go_num, by rw [HT2.out], by rw [HT2.out], by rw [HT2.out], hb.alloc hs _⟩
            case measure => simp [intOf]; omega
          · rw [if_neg hl] at hT2
            have HT2 := Lib.hid hT2
            clear hT hT2 hat hr
            go_wp2
            go_roundw
            case rel => exact ⟨k + 1, by omega, by go_num, by rw [HT2.out], by rw [HT2.out], by rw [HT2.out], hb.alloc hs _⟩
            case measure => simp [intOf]; omega
      · have hT : rfold j lv r (x.take (k + 1)) = s := by rw [HT.out]; unfold rstep; rw [if_neg hr]
        have t1 : (a.r != r) = true := by rw [bne_iff_ne]; exact hr
        have HT2 := Lib.hid hT
        clear hT hr
        go_wp2
        go_roundw
        case rel => exact ⟨k + 1, by omega, by go_num, by rw [HT2.out], by rw [HT2.out], by rw [HT2.out], hb.alloc hs _⟩
        case measure => simp [intOf]; omega
    · obtain rfl : k = x.length := by omega
      rw [List.take_length]
      by_cases hd : (rfold j lv r x).due ≤ now
      · have HA : Hid ((rfold j lv r x).at now = (rfold j lv r x).next) := by show One.at _ _ = _; unfold One.at; rw [if_pos hd]
        go_wp2
        go_ret
        exact ⟨ret_int HA.out.symm, hb⟩
      · have HA : Hid ((rfold j lv r x).at now = (rfold j lv r x).level) := by show One.at _ _ = _; unfold One.at; rw [if_neg hd]
        go_wp2
        go_ret
        exact ⟨ret_int HA.out.symm, hb⟩

instance (n : Nat) (r level now : Int) : Decidable (AskOk n r level now) := by unfold AskOk; infer_instance
end Go.Proofs.Ytlodiibmofeikaa
