/- ranges: Of; the law RangesOf. -/
import Derived.Test.YtddoefkojlghnaaRanges5
namespace Go.Proofs.Ytddoefkojlghnaa
open Go.RowKit
set_option linter.unusedVariables false
set_option linter.unusedSimpArgs false

/-- is it as the document says? -/
def okL : Int → List (Int × Int) → Bool
  | _, [] => true
  | last, x :: r => decide (last < x.1) && decide (x.1 < x.2) && decide (x.2 ≤ 16384) && okL x.2 r
theorem okL_iff : ∀ {l : List (Int × Int)} {lo : Int}, okL lo l = true ↔ Good lo l
  | [], lo => by simp [okL, Good]
  | x :: r, lo => by
    unfold okL Good
    rw [Bool.and_eq_true, Bool.and_eq_true, Bool.and_eq_true, okL_iff, decide_eq_true_iff, decide_eq_true_iff, decide_eq_true_iff, and_assoc, and_assoc]
theorem okL_drop {l : List (Int × Int)} {k : Nat} {x : Int × Int} (hx : l[k]? = some x) (last : Int) : okL last (l.drop k) = (decide (last < x.1) && decide (x.1 < x.2) && decide (x.2 ≤ 16384) && okL x.2 (l.drop (k + 1))) := by
  obtain ⟨hk, rfl⟩ := List.getElem?_eq_some_iff.1 hx
  rw [List.drop_eq_getElem_cons hk]
  rfl
/-- what Of leaves -/
def OfR (w w' : World) (e : Ending) (l : List (Int × Int)) : Prop := ∃ p : Option Addr, e = .returned (.tuple #[.pointer p, .bool (okL (-1) l)]) ∧ Below w.heap.size w w' ∧ (okL (-1) l = false → p = none) ∧ (okL (-1) l = true → ∃ v', p = some ⟨w.heap.size, 0, none⟩ ∧ SetAt w' w.heap.size v' l (tot l) ∧ ∀ g, v'.ownBlock = some g → w.heap.size ≤ g)
theorem OfR.no {w w' : World} {l : List (Int × Int)} {e : Ending} (h : okL (-1) l = false) (hb : Below w.heap.size w w') (he : e = .returned (.tuple #[.pointer none, .bool false])) : OfR w w' e l :=
  ⟨none, by rw [he, h], hb, fun _ => rfl, fun h2 => by rw [h] at h2; cases h2⟩
theorem OfR.yes {w w' : World} {l : List (Int × Int)} {e : Ending} {v' : Value} (h : okL (-1) l = true) (hb : Below w.heap.size w w') (he : e = .returned (.tuple #[.pointer (some ⟨w.heap.size, 0, none⟩), .bool true])) (hs : SetAt w' w.heap.size v' l (tot l)) (hv : ∀ g, v'.ownBlock = some g → w.heap.size ≤ g) : OfR w w' e l :=
  ⟨_, by rw [he, h], hb, (fun h2 => by rw [h] at h2; cases h2), fun _ => ⟨v', rfl, hs, hv⟩⟩
theorem good_snoc {l : List (Int × Int)} {k : Nat} {x : Int × Int} {last : Int} (g : Good (-1) (l.take k)) (hl : -1 ≤ last) (hla : ∀ y ∈ l.take k, y.2 ≤ last) (hx : l[k]? = some x) (h1 : last < x.1) (h2 : x.1 < x.2) (h3 : x.2 ≤ 16384) :
    Good (-1) (l.take (k + 1)) ∧ (∀ y ∈ l.take (k + 1), y.2 ≤ x.2) ∧ ∀ n, cov (l.take (k + 1)) n = (cov (l.take k) n || (rightB x.1 x.2 && (decide (x.1 ≤ n) && decide (n < x.2)))) := by
  have hr : rightB x.1 x.2 = true := rightB_iff.2 ⟨by omega, h3, by omega⟩
  rw [List.take_add_one, hx, Option.toList_some]
  refine ⟨g.append (fun y hy z hz => ?_) (good_one (by omega) h2 h3), fun y hy => ?_, fun n => ?_⟩
  · obtain rfl : z = x := by simpa using hz
    have := hla y hy
    omega
  · rcases List.mem_append.1 hy with hy | hy
    · have := hla y hy; omega
    · obtain rfl : y = x := by simpa using hy
      omega
  · rw [cov_append, hr, Bool.true_and]
    simp [cov]
set_option maxRecDepth 100000 in
set_option maxHeartbeats 4000000 in
theorem of_any (v : Value) (l : List (Int × Int)) (w : World) (h : Reads w 2 v l.length (l.flatMap pairCells)) (hn : l.length ≤ 100000) :
    Calls Try.prog 9 #[v] w fun e w' => OfR w w' e l := by
  have HNW := Lib.hid (new_any w)
  have HAD := Lib.hid @add_any
  have HRT := Lib.hid right_any
  obtain ⟨s, k, rfl, -⟩ := h.val
  have H := Lib.hid h
  obtain ⟨n, hnn⟩ : ∃ n, n = l.length := ⟨_, rfl⟩
  have HN := Lib.hid hnn
  rw [← hnn] at hn H ⊢
  clear h hnn
  go_enter Try.func9, Try.ntmps9
  go_wp2_with fail
  refine HNW.out.mono ?_
  rintro e w1 ⟨rfl, h0, hb1⟩
  have H0 := Lib.hid h0
  have HB1 := Lib.hid hb1
  clear h0 hb1
  go_wp2_with fail
  go_loopw [5, 11] (fun y i wr => ∃ (q : Nat) (last : Int) (v' : Value), q ≤ n ∧ y = .int .i64 last ∧ i = .int .i64 q ∧ -1 ≤ last ∧ Hid (Good (-1) (l.take q)) ∧ Hid (∀ y ∈ l.take q, y.2 ≤ last) ∧ Hid (okL (-1) l = okL last (l.drop q)) ∧ Hid (SetAt wr w.heap.size v' (l.take q) (tot (l.take q))) ∧ Hid (∀ g, v'.ownBlock = some g → w.heap.size ≤ g) ∧ Hid (Below w.heap.size w wr)) (fun _ i _ => n - (intOf i).toNat)
  case atStart => exact ⟨0, -1, _, by omega, rfl, rfl, by omega, Lib.hid trivial, Lib.hid (fun y hy => by simp at hy), Lib.hid (by rw [List.drop_zero]), H0, Lib.hid (fun g hg => by cases hg), HB1⟩
  case round =>
    obtain ⟨q, last, v', hqn, rfl, rfl, hl, HG, HLA, HOK, HS, HV, HB⟩ := hrel
    by_cases hq : q < n
    · obtain ⟨x, hx⟩ : ∃ x, l[q]? = some x := ⟨_, List.getElem?_eq_getElem (by have := HN.out; omega)⟩
      obtain ⟨g, o, cc, he, y0, y1⟩ := (H.out.below HB.out).pair hx
      cases he
      have i1 : (0 : Int) ≤ (q : Int) := by omega
      have i2 : (q : Int) < (n : Int) := by omega
      have hok := HOK.out.trans (okL_drop hx last)
      have hsn := Lib.hid (fun a b c => good_snoc HG.out hl HLA.out hx a b c)
      have hB2 := Blk.new wr #[.int .i64 x.1, .int .i64 x.2] 24
      have hbw := (Below.refl _ wr).alloc (Nat.le_refl wr.heap.size) (.cells #[.int .i64 x.1, .int .i64 x.2] 24)
      have HB3 := Lib.hid (bmore HB.out hbw HB.out.size)
      have HS3 := Lib.hid (HS.out.below hbw)
      have x0 := hB2.cell 0 (v := .int .i64 x.1) rfl
      have x1 := hB2.cell 1 (v := .int .i64 x.2) rfl
      clear hx hB2 hbw
      go_wp2_with fail
      refine (HRT.out _ _ _).mono ?_
      rintro e w3 ⟨rfl, rfl⟩
      by_cases hgood : last < x.1 ∧ x.1 < x.2 ∧ x.2 ≤ 16384
      · obtain ⟨g1, g2, g3⟩ := hgood
        have HOK2 : Hid (okL (-1) l = okL x.2 (l.drop (q + 1))) := by
          show _ = _
          rw [hok]; simp [g1, g2, g3]
        obtain ⟨s1, s2, s3⟩ := hsn.out g1 g2 g3
        have S1 := Lib.hid s1
        have S2 := Lib.hid s2
        have S3 := Lib.hid s3
        rw [rightB_iff.2 ⟨by omega, g3, by omega⟩]
        have ne : ¬ x.1 = x.2 := by omega
        have ne2 : (x.1 == x.2) = false := by simp [ne]
        have nle : ¬ x.1 ≤ last := by omega
        clear hok s1 s2 s3
        go_wp2_with fail
        refine (HAD.out _ _ _ _ _ _ HS3.out HG.out).mono ?_
        intro e w4 hr
        obtain ⟨rfl, v5, HS5, HV5, HB5⟩ := hr.at S1.out S3.out HB3.out (Nat.le_refl _) (Nat.le_refl _) HV.out
        generalize tot (List.take (q + 1) l) - tot (List.take q l) = T
        generalize (if rightB x.1 x.2 = true then (0 : Int) else 11) = T2
        clear hr x0 x1 y0 y1
        go_wp2
        go_roundw
        case rel => exact ⟨q + 1, x.2, v5, by omega, rfl, by go_num, by omega, S1, S2, HOK2, HS5, HV5, HB5⟩
        case measure => simp [intOf]; omega
      · have hno : okL (-1) l = false := by
          rw [hok]
          by_cases a1 : last < x.1
          · by_cases a2 : x.1 < x.2
            · have a3 : ¬ x.2 ≤ 16384 := fun h => hgood ⟨a1, a2, h⟩
              simp [a3]
            · simp [a2]
          · simp [a1]
        have HNO := Lib.hid hno
        clear hok hno hsn
        cases hr : rightB x.1 x.2 with
        | false =>
          clear hr hgood
          go_wp2
          go_ret2
          exact .no HNO.out HB3.out rfl
        | true =>
          obtain ⟨r0, r1, r2⟩ := rightB_iff.1 hr
          clear hr
          by_cases he : x.1 = x.2
          · have ne2 : (x.1 == x.2) = true := by simp [he]
            clear hgood he
            go_wp2
            go_ret2
            exact .no HNO.out HB3.out rfl
          · have ne2 : (x.1 == x.2) = false := by simp [he]
            have hle : x.1 ≤ last := by omega
            clear hgood he
            go_wp2
            go_ret2
            exact .no HNO.out HB3.out rfl
    · obtain rfl : q = n := by omega
      have hok := HOK.out
      have hs := HS.out
      rw [List.drop_of_length_le (by rw [← HN.out]; omega)] at hok
      rw [List.take_of_length_le (by rw [← HN.out]; omega)] at hs
      have HYES := Lib.hid (fun e => OfR.yes (e := e) (v' := v') hok HB.out)
      have HYS := Lib.hid hs
      clear hok hs
      go_wp2
      go_ret2
      exact HYES.out _ rfl HYS.out HV.out
end Go.Proofs.Ytddoefkojlghnaa
