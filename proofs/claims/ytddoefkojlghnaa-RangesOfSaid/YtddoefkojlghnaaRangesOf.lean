/- ranges: the law RangesOf. -/
import Derived.Test.YtddoefkojlghnaaRanges6
namespace Go.Proofs.Ytddoefkojlghnaa
open Go.RowKit
set_option linter.unusedVariables false
set_option linter.unusedSimpArgs false

set_option maxRecDepth 100000 in
set_option maxHeartbeats 4000000 in
theorem rangesOf_any (v : Value) (l : List (Int × Int)) (w : World) (h : Reads w 2 v l.length (l.flatMap pairCells)) :
    Calls Try.prog 3 #[v] w fun e w' => e = .returned (.bool true) ∧ Below w.heap.size w w' := by
  have HAW := Lib.hid awake_any
  have HOF := Lib.hid @of_any
  have HST := Lib.hid @str_any
  have HPR := Lib.hid @pairs_yes
  obtain ⟨s, k, rfl, -⟩ := h.val
  have H := Lib.hid h
  obtain ⟨n, hnn⟩ : ∃ n, n = l.length := ⟨_, rfl⟩
  have HN := Lib.hid hnn
  rw [← hnn] at ⊢
  clear h hnn
  rw [← HN.out] at H
  by_cases hbig : 60 < n
  · have i1 : (60 : Int) < (n : Int) := by omega
    clear hbig
    go_enter Try.func3, Try.ntmps3
    go_wp2_with fail
    refine (HAW.out _).mono ?_
    rintro e w1 ⟨rfl, hb1⟩
    have HB1 := Lib.hid hb1
    clear hb1
    go_wp2
    go_ret
    exact ⟨rfl, HB1.out⟩
  · have i1 : ¬ (60 : Int) < (n : Int) := by omega
    go_enter Try.func3, Try.ntmps3
    go_wp2_with fail
    go_loopw [3, 4, 15] (fun y z i wr => ∃ (q : Nat) (r : Bool) (last : Int), q ≤ n ∧ y = .bool r ∧ z = .int .i64 last ∧ i = .int .i64 q ∧ Hid (okL (-1) l = (r && okL last (l.drop q))) ∧ Hid (Below w.heap.size w wr)) (fun _ _ i _ => n - (intOf i).toNat)
    case atStart => exact ⟨0, true, -1, by omega, rfl, rfl, rfl, Lib.hid (by rw [List.drop_zero, Bool.true_and]), Lib.hid (Below.refl _ _)⟩
    case round =>
      obtain ⟨q, r, last, hqn, rfl, rfl, rfl, HOK, HB⟩ := hrel
      by_cases hq : q < n
      · obtain ⟨x, hx⟩ : ∃ x, l[q]? = some x := ⟨_, List.getElem?_eq_getElem (by have := HN.out; omega)⟩
        obtain ⟨g, o, cc, he, y0, y1⟩ := (H.out.below HB.out).pair hx
        cases he
        have i1 : (0 : Int) ≤ (q : Int) := by omega
        have i2 : (q : Int) < (n : Int) := by omega
        have hok := HOK.out.trans (congrArg (fun z => r && z) (okL_drop hx last))
        have hB2 := Blk.new wr #[.int .i64 x.1, .int .i64 x.2] 24
        have hbw := (Below.refl _ wr).alloc (Nat.le_refl wr.heap.size) (.cells #[.int .i64 x.1, .int .i64 x.2] 24)
        have HB3 := Lib.hid (bmore HB.out hbw HB.out.size)
        have x0 := hB2.cell 0 (v := .int .i64 x.1) rfl
        have x1 := hB2.cell 1 (v := .int .i64 x.2) rfl
        obtain ⟨r2, hr2⟩ : ∃ r2, r2 = (r && (decide (last < x.1) && decide (x.1 < x.2) && decide (x.2 ≤ 16384))) := ⟨_, rfl⟩
        have HOK2 : Hid (okL (-1) l = (r2 && okL x.2 (l.drop (q + 1)))) := by
          show _ = _
          rw [hok, hr2]; simp [Bool.and_assoc]
        have HR2 := Lib.hid hr2
        clear hx hB2 hbw hok hr2
        cases r with
        | false =>
          obtain rfl : r2 = false := by rw [HR2.out]; rfl
          go_wp2
          go_roundw
          case rel => exact ⟨q + 1, false, x.2, by omega, rfl, rfl, by go_num, HOK2, HB3⟩
          case measure => simp [intOf]; omega
        | true =>
          by_cases c1 : last < x.1
          · by_cases c2 : x.1 < x.2
            · by_cases c3 : x.2 ≤ 16384
              · obtain rfl : r2 = true := by rw [HR2.out]; simp [c1, c2, c3]
                go_wp2
                go_roundw
                case rel => exact ⟨q + 1, true, x.2, by omega, by first | rfl | simp [c1, c2, c3], rfl, by go_num, HOK2, HB3⟩
                case measure => simp [intOf]; omega
              · obtain rfl : r2 = false := by rw [HR2.out]; simp [c3]
                go_wp2
                go_roundw
                case rel => exact ⟨q + 1, false, x.2, by omega, by first | rfl | simp [c1, c2, c3], rfl, by go_num, HOK2, HB3⟩
                case measure => simp [intOf]; omega
            · obtain rfl : r2 = false := by rw [HR2.out]; simp [c2]
              go_wp2
              go_roundw
              case rel => exact ⟨q + 1, false, x.2, by omega, by first | rfl | simp [c1, c2], rfl, by go_num, HOK2, HB3⟩
              case measure => simp [intOf]; omega
          · obtain rfl : r2 = false := by rw [HR2.out]; simp [c1]
            go_wp2
            go_roundw
            case rel => exact ⟨q + 1, false, x.2, by omega, by first | rfl | simp [c1], rfl, by go_num, HOK2, HB3⟩
            case measure => simp [intOf]; omega
      · obtain rfl : q = n := by omega
        have hok := HOK.out
        rw [List.drop_of_length_le (by rw [← HN.out]; omega)] at hok
        have HOK2 : Hid (okL (-1) l = r) := by
          show _ = _
          rw [hok]; simp [okL]
        have hof := of_any _ l wr (HN.out ▸ H.out.below HB.out) (by have := HN.out; omega)
        have HO := Lib.hid (show Calls Try.prog 9 #[.slice s q k] wr fun e w' => OfR wr w' e l from HN.out ▸ hof)
        clear hok hof
        go_wp2_with fail
        refine HO.out.mono ?_
        rintro e w2 ⟨p, rfl, hb, hno, hyes⟩
        rw [HOK2.out] at hno hyes ⊢
        have HB2 := Lib.hid (bmore HB.out hb HB.out.size)
        clear hb
        cases r with
        | false =>
          obtain rfl := hno rfl
          clear hno hyes
          go_wp2_with fail
          refine (HAW.out _).mono ?_
          rintro e w1 ⟨rfl, hb1⟩
          have HB3 := Lib.hid (bmore HB2.out hb1 HB2.out.size)
          clear hb1
          go_wp2
          go_ret
          exact ⟨rfl, HB3.out⟩
        | true =>
          obtain ⟨v', rfl, hs, hv⟩ := hyes rfl
          have HS := Lib.hid hs
          have GD := okL_iff.1 HOK2.out
          have HT := Lib.hid (HST.out _ _ _ _ w2 hs (by have := GD.len'; omega))
          clear hno hyes hs hv GD
          go_wp2_with fail
          refine HT.out.mono ?_
          rintro e w3 ⟨A, c, rfl, ho, hb3⟩
          rw [← HN.out] at ho ⊢
          have HB3 := Lib.hid (bmore HB2.out hb3 HB2.out.size)
          have HP := Lib.hid (HPR.out A s c k q l w3 (Reads.of_owns ho) (H.out.below HB3.out) (by omega) HN.out)
          clear ho hb3
          go_wp2_with fail
          refine HP.out.mono ?_
          rintro e w4 ⟨rfl, m, rfl⟩
          go_wp2_with fail
          refine (HAW.out _).mono ?_
          rintro e w5 ⟨rfl, hb5⟩
          have HB5 := Lib.hid (bmore (below_drewN HB3.out m) hb5 HB3.out.size)
          clear hb5
          go_wp2
          go_ret
          exact ⟨rfl, HB5.out⟩
end Go.Proofs.Ytddoefkojlghnaa
