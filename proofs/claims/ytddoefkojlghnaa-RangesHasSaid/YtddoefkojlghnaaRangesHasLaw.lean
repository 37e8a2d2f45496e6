/- ranges: the law RangesHas. -/
import Derived.Test.YtddoefkojlghnaaRangesPlayed
import Derived.Test.YtddoefkojlghnaaRanges7
import Derived.Lib.MinMax
namespace Go.Proofs.Ytddoefkojlghnaa
open Go.RowKit
set_option linter.unusedVariables false
set_option linter.unusedSimpArgs false

/-- the law's scan finds what First tells -/
theorem scan_first {L : List (Int × Int)} {n i : Int} (g : Good (-1) L) (h0 : 0 ≤ i) (hn : n ≤ i) (hno : ∀ j, n ≤ j → 0 ≤ j → j < i → cov L j = false) : (16384 ≤ i → firstL n L = none) ∧ (cov L i = true → firstL n L = some i) := by
  refine ⟨fun hi => ?_, fun hc => ?_⟩
  · cases hf : firstL n L with
    | none => rfl
    | some k =>
      obtain ⟨k1, k2, k3⟩ := firstL_some g hf
      have h1 := g.lo_cov k1
      rw [hno k k2 (by omega) (by omega)] at k1; cases k1
  · cases hf : firstL n L with
    | none => rw [firstL_none g hf i hn] at hc; cases hc
    | some k =>
      obtain ⟨k1, k2, k3⟩ := firstL_some g hf
      have h1 := g.lo_cov k1
      have : k = i := by
        rcases Int.lt_trichotomy k i with h | h | h
        · rw [hno k k2 (by omega) h] at k1; cases k1
        · exact h
        · rw [k3 i hn h] at hc; cases hc
      rw [this]
theorem b01_one (x : Bool) : (b01 x == 1) = x := by cases x <;> rfl
theorem b01_zero (x : Bool) : (b01 x == 0) = !x := by cases x <;> rfl
set_option maxRecDepth 100000 in
set_option maxHeartbeats 4000000 in
theorem rangesHas_any (v : Value) (l : List (Int × Int × Int)) (n : Int) (w : World) (h : Reads w 3 v l.length (l.flatMap opCells)) (hn : n ≤ 9223372036854775807) (hn0 : -9223372036854775808 ≤ n) :
    Calls Try.prog 5 #[v, .int .i64 n] w fun e w' => e = .returned (.bool true) ∧ Below w.heap.size w w' := by
  have HAW := Lib.hid awake_any
  have HPL := Lib.hid (fun h1 => played_any v l w h h1)
  have HHS := Lib.hid @has_any
  have HFI := Lib.hid @first_any
  obtain ⟨A0, k0, rfl, -⟩ := h.val
  obtain ⟨m, hm⟩ : ∃ m, m = l.length := ⟨_, rfl⟩
  have HM := Lib.hid hm
  rw [← hm] at HPL ⊢
  clear h hm
  by_cases hle : m ≤ 12
  · go_enter Try.func5, Try.ntmps5
    go_wp2_with fail
    refine (HPL.out (by omega)).mono ?_
    rintro e w1 ⟨b, v0, L, A, k, rfl, HP, HB⟩
    have HH := Lib.hid (HHS.out b v0 L (tot L) n w1 HP.out.at_ HP.out.good hn)
    obtain ⟨cb, hcb⟩ : ∃ cb, cb = cov L n := ⟨_, rfl⟩
    rw [← hcb] at HH
    have HCB := Lib.hid hcb
    have hlo : cb = true → 0 ≤ n ∧ n < 16384 := fun e => by have := HP.out.good.lo_cov (n := n) (by rw [← hcb]; exact e); omega
    have hns : n < 0 ∧ cb = false ∨ (0 ≤ n ∧ n < 16384) ∨ (0 ≤ n ∧ 16384 ≤ n ∧ cb = false) := by
      rcases Int.lt_or_le n 0 with h1 | h1
      · refine .inl ⟨h1, ?_⟩
        cases hb : cb with
        | false => rfl
        | true => have := hlo hb; omega
      · rcases Int.lt_or_le n 16384 with h2 | h2
        · exact .inr (.inl ⟨h1, h2⟩)
        · refine .inr (.inr ⟨h1, h2, ?_⟩)
          cases hb : cb with
          | false => rfl
          | true => have := hlo hb; omega
    have t2 : (cb != cb) = false := by simp
    clear hcb hlo
    go_wp2_with fail
    refine HH.out.mono ?_
    rintro e w2 ⟨rfl, hb2⟩
    have HP2 := Lib.hid (HP.out.below hb2)
    have HB2 : Hid (Below w.heap.size w w2) := bmore HB.out hb2 HB.out.size
    have HF := Lib.hid (HFI.out b v0 L (tot L) n w2 HP2.out.at_ (by have := HP2.out.good.len'; omega))
    clear hb2
    have hcell : 0 ≤ n ∧ n < 16384 → ∃ g o c, Value.slice A 16384 k = .slice (some ⟨g, o, none⟩) 16384 c ∧ w2.cell? ⟨g, o + n.toNat, none⟩ = some (.int .i64 (b01 cb)) := fun ⟨h1, h2⟩ => by
      obtain ⟨j, rfl⟩ : ∃ j : Nat, n = j := ⟨n.toNat, by omega⟩
      obtain ⟨g, o, c, he, y0⟩ := HP2.out.rd.at j _ (bitV_get (by omega))
      rw [HCB.out, Int.toNat_natCast]
      exact ⟨g, o, c, he, y0⟩
    rcases hns with ⟨n1, rfl⟩ | ⟨n1, n2⟩ | ⟨n1, n2, rfl⟩
    rotate_left
    · obtain ⟨g, o, cc, he, y0⟩ := hcell ⟨n1, n2⟩
      cases he
      obtain ⟨z, hz⟩ : ∃ z, z = b01 cb := ⟨_, rfl⟩
      rw [← hz] at y0
      have t1 : (z == 1) = cb := by rw [hz, b01_one]
      clear hz hcell
      go_wp2_with fail
      go_loopw [7] (fun x wr => ∃ i : Int, x = .int .i64 i ∧ 0 ≤ i ∧ n ≤ i ∧ i ≤ 9223372036854775807 ∧ Hid (wr = w2) ∧ Hid (∀ j, n ≤ j → 0 ≤ j → j < i → cov L j = false)) (fun x _ => (16384 - intOf x).toNat)
      case atStart => exact ⟨max n 0, rfl, by omega, by omega, by omega, (by first | exact Lib.hid rfl | exact Lib.hid trivial), fun j h1 h2 h3 => by omega⟩
      case round =>
        obtain ⟨i, rfl, h0, h1, h9, HW, HNO⟩ := hrel
        obtain rfl : wr = w2 := HW.out
        by_cases hi : i < 16384
        · obtain ⟨q, rfl⟩ : ∃ q : Nat, i = q := ⟨i.toNat, by omega⟩
          obtain ⟨g, o, cc, he, y0⟩ := HP2.out.rd.at q _ (bitV_get (by omega))
          cases he
          cases hcq : cov L (q : Int) with
          | false =>
            rw [hcq] at y0
            have y1 : wr.cell? ⟨g, o + q, none⟩ = some (.int .i64 0) := y0
            have HN2 : Hid (∀ j, n ≤ j → 0 ≤ j → j < (q : Int) + 1 → cov L j = false) := fun j j1 j2 j3 => by
              by_cases hjq : j = q
              · rw [hjq]; exact hcq
              · exact HNO.out j j1 j2 (by omega)
            clear y0 hcq
            go_wp2
            go_roundw
            case rel => exact ⟨(q : Int) + 1, by go_num, by omega, by omega, by omega, (by first | exact Lib.hid rfl | exact Lib.hid trivial), HN2⟩
            case measure => simp [intOf]; omega
          | true =>
            rw [hcq] at y0
            have y1 : wr.cell? ⟨g, o + q, none⟩ = some (.int .i64 1) := y0
            have hf := (scan_first HP2.out.good h0 h1 HNO.out).2 hcq
            rw [hf, show firstV (some (q : Int)) = .tuple #[.int .i64 q, .bool true] from rfl] at HF
            clear y0 hcq hf
            go_wp2_with fail
            refine HF.out.mono ?_
            rintro e w3 ⟨rfl, hb3⟩
            have HB3 : Hid (Below w.heap.size w w3) := bmore HB2.out hb3 HB2.out.size
            clear hb3
            go_wp2_with fail
            refine (HAW.out _).mono ?_
            rintro e w4 ⟨rfl, hb4⟩
            have HB4 : Hid (Below w.heap.size w w4) := bmore HB3.out hb4 HB3.out.size
            clear hb4
            go_wp2
            go_ret
            exact ⟨rfl, HB4.out⟩
        · have hf := (scan_first HP2.out.good h0 h1 HNO.out).1 (by omega)
          rw [hf, show firstV none = .tuple #[.int .i64 0, .bool false] from rfl] at HF
          clear hf
          go_wp2_with fail
          refine HF.out.mono ?_
          rintro e w3 ⟨rfl, hb3⟩
          have HB3 : Hid (Below w.heap.size w w3) := bmore HB2.out hb3 HB2.out.size
          clear hb3
          go_wp2_with fail
          refine (HAW.out _).mono ?_
          rintro e w4 ⟨rfl, hb4⟩
          have HB4 : Hid (Below w.heap.size w w4) := bmore HB3.out hb4 HB3.out.size
          clear hb4
          go_wp2
          go_ret
          exact ⟨rfl, HB4.out⟩
    · clear hcell
      go_wp2_with fail
      go_loopw [7] (fun x wr => ∃ i : Int, x = .int .i64 i ∧ 0 ≤ i ∧ n ≤ i ∧ i ≤ 9223372036854775807 ∧ Hid (wr = w2) ∧ Hid (∀ j, n ≤ j → 0 ≤ j → j < i → cov L j = false)) (fun x _ => (16384 - intOf x).toNat)
      case atStart => exact ⟨max n 0, rfl, by omega, by omega, by omega, (by first | exact Lib.hid rfl | exact Lib.hid trivial), fun j h1 h2 h3 => by omega⟩
      case round =>
        obtain ⟨i, rfl, h0, h1, h9, HW, HNO⟩ := hrel
        obtain rfl : wr = w2 := HW.out
        by_cases hi : i < 16384
        · exact absurd hi (by omega)
        · have hf := (scan_first HP2.out.good h0 h1 HNO.out).1 (by omega)
          rw [hf, show firstV none = .tuple #[.int .i64 0, .bool false] from rfl] at HF
          clear hf
          go_wp2_with fail
          refine HF.out.mono ?_
          rintro e w3 ⟨rfl, hb3⟩
          have HB3 : Hid (Below w.heap.size w w3) := bmore HB2.out hb3 HB2.out.size
          clear hb3
          go_wp2_with fail
          refine (HAW.out _).mono ?_
          rintro e w4 ⟨rfl, hb4⟩
          have HB4 : Hid (Below w.heap.size w w4) := bmore HB3.out hb4 HB3.out.size
          clear hb4
          go_wp2
          go_ret
          exact ⟨rfl, HB4.out⟩
    · clear hcell
      go_wp2_with fail
      go_loopw [7] (fun x wr => ∃ i : Int, x = .int .i64 i ∧ 0 ≤ i ∧ n ≤ i ∧ i ≤ 9223372036854775807 ∧ Hid (wr = w2) ∧ Hid (∀ j, n ≤ j → 0 ≤ j → j < i → cov L j = false)) (fun x _ => (16384 - intOf x).toNat)
      case atStart => exact ⟨max n 0, rfl, by omega, by omega, by omega, (by first | exact Lib.hid rfl | exact Lib.hid trivial), fun j h1 h2 h3 => by omega⟩
      case round =>
        obtain ⟨i, rfl, h0, h1, h9, HW, HNO⟩ := hrel
        obtain rfl : wr = w2 := HW.out
        by_cases hi : i < 16384
        · obtain ⟨q, rfl⟩ : ∃ q : Nat, i = q := ⟨i.toNat, by omega⟩
          obtain ⟨g, o, cc, he, y0⟩ := HP2.out.rd.at q _ (bitV_get (by omega))
          cases he
          cases hcq : cov L (q : Int) with
          | false =>
            rw [hcq] at y0
            have y1 : wr.cell? ⟨g, o + q, none⟩ = some (.int .i64 0) := y0
            have HN2 : Hid (∀ j, n ≤ j → 0 ≤ j → j < (q : Int) + 1 → cov L j = false) := fun j j1 j2 j3 => by
              by_cases hjq : j = q
              · rw [hjq]; exact hcq
              · exact HNO.out j j1 j2 (by omega)
            clear y0 hcq
            go_wp2
            go_roundw
            case rel => exact ⟨(q : Int) + 1, by go_num, by omega, by omega, by omega, (by first | exact Lib.hid rfl | exact Lib.hid trivial), HN2⟩
            case measure => simp [intOf]; omega
          | true =>
            rw [hcq] at y0
            have y1 : wr.cell? ⟨g, o + q, none⟩ = some (.int .i64 1) := y0
            have hf := (scan_first HP2.out.good h0 h1 HNO.out).2 hcq
            rw [hf, show firstV (some (q : Int)) = .tuple #[.int .i64 q, .bool true] from rfl] at HF
            clear y0 hcq hf
            go_wp2_with fail
            refine HF.out.mono ?_
            rintro e w3 ⟨rfl, hb3⟩
            have HB3 : Hid (Below w.heap.size w w3) := bmore HB2.out hb3 HB2.out.size
            clear hb3
            go_wp2_with fail
            refine (HAW.out _).mono ?_
            rintro e w4 ⟨rfl, hb4⟩
            have HB4 : Hid (Below w.heap.size w w4) := bmore HB3.out hb4 HB3.out.size
            clear hb4
            go_wp2
            go_ret
            exact ⟨rfl, HB4.out⟩
        · have hf := (scan_first HP2.out.good h0 h1 HNO.out).1 (by omega)
          rw [hf, show firstV none = .tuple #[.int .i64 0, .bool false] from rfl] at HF
          clear hf
          go_wp2_with fail
          refine HF.out.mono ?_
          rintro e w3 ⟨rfl, hb3⟩
          have HB3 : Hid (Below w.heap.size w w3) := bmore HB2.out hb3 HB2.out.size
          clear hb3
          go_wp2_with fail
          refine (HAW.out _).mono ?_
          rintro e w4 ⟨rfl, hb4⟩
          have HB4 : Hid (Below w.heap.size w w4) := bmore HB3.out hb4 HB3.out.size
          clear hb4
          go_wp2
          go_ret
          exact ⟨rfl, HB4.out⟩
  · go_enter Try.func5, Try.ntmps5
    go_wp2_with fail
    refine (HAW.out _).mono ?_
    rintro e w1 ⟨rfl, hb1⟩
    have HB1 := Lib.hid hb1
    clear hb1
    go_wp2
    go_ret
    exact ⟨rfl, HB1.out⟩
end Go.Proofs.Ytddoefkojlghnaa
