/- ranges: the law RangesPlays. -/
import Derived.Test.YtddoefkojlghnaaRangesPlayed
import Derived.Test.YtddoefkojlghnaaRgRef3
import Derived.Test.YtddoefkojlghnaaRangesStr
namespace Go.Proofs.Ytddoefkojlghnaa
open Go.RowKit
set_option linter.unusedVariables false
set_option linter.unusedSimpArgs false

theorem stretches_eq {S L : List (Int × Int)} (gS : Good (-1) S) (gL : Good (-1) L) (h : ∀ n, cov S n = (inB 0 16384 n && (cov L n == true))) : S = L := good_uniq gS gL fun n => by
  rw [h]
  cases hc : cov L n with
  | false => simp
  | true =>
    have := gL.lo_cov hc
    have e : inB 0 16384 n = true := by unfold inB; simp; omega
    rw [e]; rfl
theorem tot_take {L : List (Int × Int)} {j : Nat} {x : Int × Int} (hx : L[j]? = some x) : tot (L.take (j + 1)) = tot (L.take j) + (x.2 - x.1) := by
  rw [List.take_add_one, hx, tot_append]
  show _ + tot [x] = _
  rw [tot_cons, tot_nil]; omega
set_option maxRecDepth 100000 in
set_option maxHeartbeats 4000000 in
theorem rangesPlays_any (v : Value) (l : List (Int × Int × Int)) (w : World) (h : Reads w 3 v l.length (l.flatMap opCells)) :
    Calls Try.prog 4 #[v] w fun e w' => e = .returned (.bool true) ∧ Below w.heap.size w w' := by
  have HAW := Lib.hid awake_any
  have HNW := Lib.hid (new_any w)
  have HST := Lib.hid @step_any
  have HRS := Lib.hid (fun v L w (h : Reads w 1 v 16384 (bitV 16384 (cov L))) => refstr_any v (cov L) 0 16384 true w h (by omega) (by omega))
  rw [show b01 true = 1 from rfl] at HRS
  have HSR := Lib.hid @str_any
  have HPY := Lib.hid @pairs_yes
  have HLN := Lib.hid @len_any
  have H := Lib.hid h
  obtain ⟨A0, k0, rfl, -⟩ := h.val
  obtain ⟨n, hnn⟩ : ∃ n, n = l.length := ⟨_, rfl⟩
  have HN := Lib.hid hnn
  rw [← hnn] at H ⊢
  clear h hnn
  by_cases hle : n ≤ 12
  · go_enter Try.func4, Try.ntmps4
    go_wp2_with fail
    refine HNW.out.mono ?_
    rintro e w1 ⟨rfl, hs1, hb1⟩
    have HS1 := Lib.hid hs1
    have HB1 := Lib.hid hb1
    clear hs1 hb1
    obtain ⟨w2, hmk, HO2, HB2⟩ := make_bits w1
    have HS2 : Hid (PlS w2 w.heap.size w.heap.size (.slice none 0 0) (.slice (some ⟨w1.heap.size, 0, none⟩) 16384 16384) []) := ⟨HS1.out.below HB2.out, trivial, Reads.of_owns HO2.out, (fun g hg => by cases hg; exact ⟨Nat.ne_of_gt HS1.out.str.lt, fun e => by cases e⟩), Nat.le_refl _, (fun g hg => by cases hg), (fun g hg => by cases hg; exact HB1.out.size)⟩
    have HQ2 : Hid (Below w.heap.size w w2) := bmore HB1.out HB2.out HB1.out.size
    obtain ⟨g1, hg1⟩ : ∃ g1, g1 = w1.heap.size := ⟨_, rfl⟩
    rw [← hg1] at hmk HS2
    clear hg1
    go_wp2_with fail
    go_loopw [4, 22] (fun x i wr => ∃ (k : Nat) (v0 : Value) (L : List (Int × Int)) (A : Option Addr) (c : Nat), k ≤ n ∧ i = .int .i64 k ∧ x = .slice A 16384 c ∧ Hid (PlS wr w.heap.size w.heap.size v0 (.slice A 16384 c) L) ∧ Hid (Below w.heap.size w wr)) (fun _ i _ => n - (intOf i).toNat)
    case atStart => exact ⟨0, _, [], _, _, by omega, rfl, rfl, HS2, HQ2⟩
    case round =>
      obtain ⟨k, v0, L, A, c, hkn, rfl, rfl, HP, HQ⟩ := hrel
      by_cases hk : k < n
      · obtain ⟨x, hx⟩ : ∃ x, l[k]? = some x := ⟨_, List.getElem?_eq_getElem (by have := HN.out; omega)⟩
        have HL : Hid (Reads wr 3 (.slice A0 n k0) n (l.flatMap opCells)) := H.out.keep (Keep.none HQ.out) (fun _ _ _ => id)
        obtain ⟨g, o, cc, he, y0, y1, y2⟩ := HL.out.opd hx
        cases he
        have i1 : (0 : Int) ≤ (k : Int) := by omega
        have i2 : (k : Int) < (n : Int) := by omega
        obtain ⟨wz, hwz⟩ : ∃ wz, wz = wr.alloc (.cells #[.int .i64 x.1, .int .i64 x.2.1, .int .i64 x.2.2] 35) := ⟨_, rfl⟩
        have HBZ : Hid (Below wr.heap.size wr wz) := by show Below _ _ _; rw [hwz]; exact (Below.refl _ wr).alloc (Nat.le_refl _) _
        have HPZ := Lib.hid (HP.out.below HBZ.out)
        have HQZ : Hid (Below w.heap.size w wz) := bmore HQ.out HBZ.out HQ.out.size
        have HWZ := Lib.hid hwz
        have HSZ := Lib.hid (HST.out _ _ _ L (cov L) x.1 x.2.1 x.2.2 wz HPZ.out.at_ HPZ.out.good HPZ.out.rd HPZ.out.ap)
        clear hx hwz
        go_wp2_with fail
        rw [← HWZ.out]
        refine HSZ.out.mono ?_
        rintro e w5 h5
        obtain ⟨v5, L5, A5, c5, rfl, HP5, HQ5⟩ := HPZ.out.step HQZ.out h5
        clear h5
        have HR5 := Lib.hid (HRS.out _ L5 w5 HP5.out.rd)
        go_wp2_with fail
        refine HR5.out.mono ?_
        rintro e w6 ⟨S, A6, c6, rfl, gS, hS, hO, hB⟩
        obtain rfl : S = L5 := stretches_eq gS HP5.out.good hS
        have HQ6 : Hid (Below w.heap.size w w6) := bmore HQ5.out hB HQ5.out.size
        have HP6 := Lib.hid (HP5.out.below hB)
        have HR6 := Lib.hid (Reads.of_owns hO)
        have hSl := gS.len'
        clear gS hS hO hB
        obtain ⟨m, hm⟩ : ∃ m, m = S.length := ⟨_, rfl⟩
        have HM := Lib.hid hm
        rw [← hm] at HR6 hSl ⊢
        clear hm
        go_wp2_with fail
        obtain ⟨w8, rfl⟩ : ∃ w8 : World, w8 = wr := ⟨_, rfl⟩
        go_loopw [9, 41] (fun s i wr => ∃ j : Nat, j ≤ m ∧ i = .int .i64 j ∧ s = .int .i64 (tot (S.take j)) ∧ Hid (Below w6.heap.size w6 wr)) (fun _ i _ => m - (intOf i).toNat)
        case atStart => exact ⟨0, by omega, rfl, rfl, Below.refl _ _⟩
        case round =>
          obtain ⟨j, hjm, rfl, rfl, HJ⟩ := hrel
          have hts := good_sub HP6.out.good 0 j
          rw [List.drop_zero] at hts
          by_cases hj : j < m
          · obtain ⟨y, hy⟩ : ∃ y, S[j]? = some y := ⟨_, List.getElem?_eq_getElem (by have := HM.out; omega)⟩
            obtain ⟨g3, o3, c3, he3, z0, z1⟩ := (HR6.out.keep (Keep.none HJ.out) (fun _ _ _ => id)).pair hy
            cases he3
            obtain ⟨b1, b2, b3⟩ := HP6.out.good.mem y (List.mem_of_getElem? hy)
            have HT : Hid (tot (S.take (j + 1)) = tot (S.take j) + (y.2 - y.1)) := tot_take hy
            have HJ2 : Hid (Below w6.heap.size w6 (wr.alloc (.cells #[.int .i64 y.1, .int .i64 y.2] 24))) := HJ.out.alloc HJ.out.size _
            have i3 : (0 : Int) ≤ (j : Int) := by omega
            have i4 : (j : Int) < (m : Int) := by omega
            clear hy
            obtain ⟨T, hT⟩ : ∃ T, T = tot (S.take j) := ⟨_, rfl⟩
            rw [← hT] at hts HT ⊢
            clear hT
            go_wp2
            go_roundw
            case rel => exact ⟨j + 1, by omega, by go_num, by rw [HT.out], HJ2⟩
            case measure => simp [intOf]; omega
          · obtain rfl : j = m := by omega
            have HTS : Hid (tot (S.take j) = tot S) := by show _ = _; rw [List.take_of_length_le (by have := HM.out; omega)]
            rw [HTS.out]
            have HQ9 : Hid (Below w.heap.size w wr) := bmore HQ6.out HJ.out HQ6.out.size
            have HP9 := Lib.hid (HP6.out.below HJ.out)
            have HR9 : Hid (Reads wr 2 (.slice A6 j c6) j (S.flatMap pairCells)) := HR6.out.keep (Keep.none HJ.out) (fun _ _ _ => id)
            have HS9 := Lib.hid (HSR.out _ _ S _ wr HP9.out.at_ (by have := HM.out; omega))
            rw [← HM.out] at HS9
            have t1 : ¬ ((j : Int) < (j : Int)) := by omega
            go_wp2_with fail
            refine HS9.out.mono ?_
            rintro e w10 ⟨A10, c10, rfl, hO10, hB10⟩
            have HP10 := Lib.hid (HP9.out.below hB10)
            have HR10 : Hid (Reads w10 2 (.slice A6 j c6) j (S.flatMap pairCells)) := HR9.out.keep (Keep.none hB10) (fun _ _ _ => id)
            have HPY10 := Lib.hid (HPY.out A10 A6 c10 c6 j S w10 (Reads.of_owns hO10) HR10.out (by omega) HM.out)
            have HQ10 : Hid (Below w.heap.size w w10) := bmore HQ9.out hB10 HQ9.out.size
            clear hO10 hB10
            go_wp2_with fail
            refine HPY10.out.mono ?_
            rintro e w11 ⟨rfl, nd, rfl⟩
            have HLN11 := Lib.hid (HLN.out _ _ S _ (w10.drewN nd) (HP10.out.at_.drewN nd))
            have HP11 : Hid (PlS (w10.drewN nd) w.heap.size w.heap.size v5 (.slice A5 16384 c5) S) := HP10.out.below (below_drewN (Below.refl _ _) nd)
            have HQ11 : Hid (Below w.heap.size w (w10.drewN nd)) := below_drewN HQ10.out nd
            go_wp2_with fail
            refine HLN11.out.mono ?_
            rintro e w12 ⟨rfl, rfl⟩
            have t2 : (tot S != tot S) = false := by simp
            go_wp2
            go_roundw
            case rel => exact ⟨k + 1, v5, S, A5, c5, by omega, by go_num, rfl, HP11, HQ11⟩
            case measure => simp [intOf]; omega
      · obtain rfl : k = n := by omega
        have t1 : ¬ ((k : Int) < (k : Int)) := by omega
        go_wp2_with fail
        refine (HAW.out _).mono ?_
        rintro e w3 ⟨rfl, hb3⟩
        have HB3 : Hid (Below w.heap.size w w3) := bmore HQ.out hb3 HQ.out.size
        clear hb3
        go_wp2
        go_ret
        exact ⟨rfl, HB3.out⟩
  · go_enter Try.func4, Try.ntmps4
    go_wp2_with fail
    refine (HAW.out _).mono ?_
    rintro e w1 ⟨rfl, hb1⟩
    have HB1 := Lib.hid hb1
    clear hb1
    go_wp2
    go_ret
    exact ⟨rfl, HB1.out⟩
end Go.Proofs.Ytddoefkojlghnaa
