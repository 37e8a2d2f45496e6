/- simnet: the reference's Turn. -/
import Derived.Test.YtlodiibmofeikaaQDD
import Derived.Test.YtlodiibmofeikaaQBB
import Derived.Laws.Strings
namespace Go.Proofs.Ytlodiibmofeikaa
open Go.RowKit
set_option linter.unusedVariables false
set_option linter.unusedSimpArgs false

theorem turnI_at {b : List Int} (bit : Int) {i : Nat} (hi : i < b.length) : (turnI b bit)[i]? = some (if i = tbit b.length bit / 8 then ((((b.getD i 0).toNat ^^^ 2 ^ (tbit b.length bit % 8) : Nat)) : Int) else b.getD i 0) := by
  unfold turnI
  rw [List.getElem?_set]
  by_cases h : i = tbit b.length bit / 8
  · rw [if_pos h.symm, if_pos h, ← h, if_pos hi]
  · rw [if_neg (fun e => h e.symm), if_neg h, List.getD_eq_getElem?_getD, List.getElem?_eq_getElem hi]
    rfl
theorem xor_sum : ∀ d < 256, ∀ r < 8, d ^^^ 2 ^ r = if d / 2 ^ r % 2 = 1 then d - 2 ^ r else d + 2 ^ r := by decide +kernel
theorem xor_ge : ∀ d < 256, ∀ r < 8, d / 2 ^ r % 2 = 1 → 2 ^ r ≤ d := by decide +kernel
theorem pow8r : ∀ r < 8, 1 ≤ 2 ^ r ∧ 2 ^ r ≤ 128 := by decide
def pw (j : Nat) : Nat := 2 ^ j
theorem pw_le {j : Nat} (h : j < 8) : 1 ≤ pw j ∧ pw j ≤ 128 := pow8r j h
theorem u8_wrap (z : Nat) (h : z < 256) : IntKind.u8.wrap (z : Int) = (z : Int) := by
  have h1 : IntKind.u8.signed = false := rfl
  unfold IntKind.wrap
  simp [h1, IntKind.bits]
  omega
theorem pw_next (j : Nat) : ((pw j : Nat) : Int) * 2 = ((pw (j + 1) : Nat) : Int) := by unfold pw; rw [Nat.pow_succ]; omega
theorem str_at {bs : List Int} (hb : BtsI bs) {i : Nat} (hi : i < bs.length) (w : World) : (Instr.index 9 (.string (strOfNums bs)) (.int .i64 (i : Int))).run Try.prog w = .ok (.int .u8 (bs.getD i 0)) w := by
  rw [run_index_string w _ _ _ _ (by kernel_rfl)]
  have hs : (strOfNums bs).size = bs.length := strOfNums_size bs
  rw [dif_pos ⟨by omega, by rw [hs]; omega⟩]
  have hd := btsI_at hb i
  refine congrArg (fun z => Result.ok (Value.int .u8 z) w) ?_
  have h2 : (strOfNums bs).data.toList[i]? = some (UInt8.ofNat (bs.getD i 0).toNat) := by
    rw [strOfNums_data, List.getElem?_map, List.getD_eq_getElem?_getD, List.getElem?_eq_getElem hi]
    rfl
  obtain ⟨h3, h4⟩ := List.getElem?_eq_some_iff.1 h2
  have h5 : (strOfNums bs)[(i : Int).toNat]'(by rw [hs]; omega) = UInt8.ofNat (bs.getD i 0).toNat := by
    rw [← h4]
    rfl
  rw [h5]
  have h6 : (UInt8.ofNat (bs.getD i 0).toNat).toNat = (bs.getD i 0).toNat := by
    rw [UInt8.toNat_ofNat']
    omega
  rw [h6]
  omega
/-- the reference's own way to the bit -/
theorem tbit_ref {n : Nat} (bit : Int) (hn : 0 < n) : (if bit.tmod (8 * (n : Int)) < 0 then bit.tmod (8 * (n : Int)) + 8 * (n : Int) else bit.tmod (8 * (n : Int))) = (tbit n bit : Int) := by
  obtain ⟨h1, h2⟩ := tbit_eq bit hn
  have h3 := tmod_lt (x := bit) (n := 8 * (n : Int)) (by omega)
  rw [← h1]
  generalize bit.tmod (8 * (n : Int)) = m at *
  by_cases h : m < 0
  · rw [if_pos h, Int.tmod_eq_of_lt (by omega) (by omega)]
  · rw [if_neg h]
    rw [Int.tmod_eq_emod_of_nonneg (by omega)]
    rw [Int.add_emod_right, Int.emod_eq_of_lt (by omega) (by omega)]
set_option maxRecDepth 100000 in
theorem refturn_nil (bit : Int) (w : World) :
    Calls Try.prog 58 #[.string (strOfNums []), .int .i64 bit] w fun e w' => e = .returned (.string (strOfNums [])) ∧ Below w.heap.size w w' := by
  have hs : (strOfNums []).size = 0 := rfl
  go_enter Try.func58, Try.ntmps58
  go_wp2
  go_ret
  exact ⟨rfl, Below.refl _ _⟩
set_option maxRecDepth 100000 in
set_option maxHeartbeats 2000000 in
theorem refturn_pos (bs : List Int) (bit : Int) (w : World) (hb : BtsI bs) (hn : bs.length ≤ 100000) (h0 : 0 < bs.length) :
    Calls Try.prog 58 #[.string (strOfNums bs), .int .i64 bit] w fun e w' => e = .returned (.string (strOfNums (turnI bs bit))) ∧ Below w.heap.size w w' := by
  have hs : (strOfNums bs).size = bs.length := strOfNums_size bs
  obtain ⟨i0, hi, hz0, hz1, hz2⟩ := info_parts info_byte
  have e1 : IntKind.i64.wrap (8 * (bs.length : Int)) = 8 * (bs.length : Int) := IntWalk.i64_in _ (by omega)
  have e2 : ¬ (8 * (bs.length : Int)) = 0 := by omega
  have htb := tbit_ref bit h0
  have htl := (tbit_eq bit h0).2
  have htm := tmod_lt (x := bit) (n := 8 * (bs.length : Int)) (by omega)
  have hat := fun (i : Nat) (hi : i < bs.length) => turnI_at (b := bs) bit hi
  have htlen := turnI_len bs bit
  obtain ⟨t, ht⟩ : ∃ t, t = turnI bs bit := ⟨_, rfl⟩
  obtain ⟨p, hp⟩ : ∃ p, p = tbit bs.length bit := ⟨_, rfl⟩
  obtain ⟨m, hm⟩ : ∃ m, m = bit.tmod (8 * (bs.length : Int)) := ⟨_, rfl⟩
  simp only [← ht, ← hp, ← hm] at hat htb htl htm htlen ⊢
  have HAT := Lib.hid hat
  have HS := Lib.hid (fun (i : Nat) (hi : i < bs.length) (w : World) => str_at hb hi w)
  have HB := Lib.hid hb
  have HI := Lib.hid (And.intro hi (And.intro hz0 (And.intro hz1 hz2)))
  have HTL := Lib.hid htlen
  obtain ⟨s, hss⟩ : ∃ s, s = strOfNums bs := ⟨_, rfl⟩
  rw [← hss] at HS hs ⊢
  clear hat hb hss htlen ht hp hi hz0 hz1 hz2
  have hc : (m < 0 ∧ m + 8 * (bs.length : Int) = (p : Int)) ∨ (¬ m < 0 ∧ m = (p : Int)) := by
    by_cases h : m < 0
    · rw [if_pos h] at htb; exact .inl ⟨h, htb⟩
    · rw [if_neg h] at htb; exact .inr ⟨h, htb⟩
  have q1 : (p : Int) / 8 = ((p / 8 : Nat) : Int) := by omega
  have q2 : (p : Int).tdiv 8 = ((p / 8 : Nat) : Int) := by rw [Int.tdiv_eq_ediv_of_nonneg (by omega)]; omega
  have q3 : (p : Int).tmod 8 = ((p % 8 : Nat) : Int) := by rw [Int.tmod_eq_emod_of_nonneg (by omega)]; omega
  have q4 : (p : Int) % 8 = ((p % 8 : Nat) : Int) := by omega
  have HR8 : Hid (p % 8 < 8) := Nat.mod_lt _ (by omega)
  have HQ8 : Hid (p / 8 < bs.length) := by show _ < _; omega
  generalize p / 8 = q at *
  generalize p % 8 = r at *
  clear htb
  replace hm := hm.symm
  rcases hc with ⟨g, g'⟩ | ⟨g, g'⟩
  case' inr => subst g'
  all_goals
    go_enter Try.func58, Try.ntmps58
    go_wp2_with fail
    try clear g'
    clear hm htm g e2 htl e1
    go_loopw [7, 8, 9, 10, 11] (fun o i _ _ _ wr => ∃ k : Nat, k ≤ bs.length ∧ i = .int .i64 k ∧ Hid (wr.ownsRow w.heap.size 5 1 o k (u8s (t.take k))) ∧ Hid (Below w.heap.size w wr)) (fun _ i _ _ _ _ => bs.length - (intOf i).toNat)
    case atStart => exact ⟨0, by omega, rfl, World.ownsRow_nil _ _ _ _, Below.refl _ _⟩
    case round =>
      obtain ⟨k, hk, rfl, HO, HBW⟩ := hrel
      by_cases hlt : k < bs.length
      · have hix := fun w => HS.out k hlt w
        have htk := HAT.out k hlt
        have hd := btsI_at HB.out k
        obtain ⟨d, hdd⟩ : ∃ d : Nat, bs.getD k 0 = d := ⟨(bs.getD k 0).toNat, by omega⟩
        rw [hdd] at hix htk hd
        rw [Int.toNat_natCast] at htk
        have i1 : (0 : Int) ≤ (k : Int) := by omega
        have i2 : (k : Int) < (bs.length : Int) := by omega
        obtain ⟨oA, oc, rfl⟩ := ownsRow_slice HO.out
        by_cases hkq : k = q
        · rw [if_pos hkq] at htk
          obtain ⟨z, hz⟩ : ∃ z, z = d ^^^ 2 ^ r := ⟨_, rfl⟩
          rw [← hz] at htk
          have hzs := xor_sum d (by omega) r HR8.out
          have hzg := xor_ge d (by omega) r HR8.out
          have hzl := xor256 (x := d) (r := r) (by omega) HR8.out
          have hpl := pw_le HR8.out
          rw [← hz] at hzs hzl
          change z = if d / pw r % 2 = 1 then d - pw r else d + pw r at hzs
          change d / pw r % 2 = 1 → pw r ≤ d at hzg
          have HZZ := Lib.hid (And.intro hzs (And.intro hzg (And.intro hzl hpl)))
          have HTK : Hid (u8s (t.take (k + 1)) = u8s (t.take k) ++ [.int .u8 (z : Int)]) := by
            show _ = _
            unfold u8s
            rw [List.take_add_one, htk, Option.toList_some, List.map_append]
            rfl
          have hr8 := HR8.out
          subst hkq
          clear htk hz hzs hzg hzl hpl hdd
          go_wp2_with fail
          go_loop [10, 11] (fun one j => ∃ jj : Nat, jj ≤ r ∧ j = .int .i64 jj ∧ one = .int .i64 (pw jj : Nat)) (fun _ j => r - (intOf j).toNat)
          case atStart => exact ⟨0, by omega, rfl, rfl⟩
          case round =>
            obtain ⟨jj, hj, rfl, rfl⟩ := hrel
            by_cases hjr : jj < r
            · have l1 := pw_le (j := jj) (by omega)
              have l2 := pw_le (j := jj + 1) (by omega)
              have l3 := pw_next jj
              have l5 : (jj : Int) < (r : Int) := by omega
              go_wp2
              go_round
              case rel => exact ⟨jj + 1, by omega, by go_num, by first | rfl | simp⟩
              case measure => simp [intOf]; omega
            · obtain rfl : jj = r := by omega
              obtain ⟨z1, z2, z3, z4⟩ := HZZ.out
              have l1 : ((d : Int)).tdiv ((pw jj : Nat) : Int) = ((d / pw jj : Nat) : Int) := by rw [Int.tdiv_eq_ediv_of_nonneg (by omega)]; rfl
              have l2 : ((d : Int)) / ((pw jj : Nat) : Int) = ((d / pw jj : Nat) : Int) := rfl
              have l0 : ¬ ((pw jj : Nat) : Int) = 0 := by omega
              generalize pw jj = P at *
              have l4 : d / P ≤ d := Nat.div_le_self _ _
              generalize d / P = Q at *
              have l8 : IntKind.u8.wrap (z : Int) = (z : Int) := u8_wrap z (by omega)
              by_cases ho : Q % 2 = 1
              · rw [if_pos ho] at z1
                have hPd := z2 ho
                have l6 : ((Q : Nat) : Int).tmod 2 = 1 := by rw [Int.tmod_eq_emod_of_nonneg (by omega)]; omega
                have l7 : (d : Int) - (P : Int) = (z : Int) := by omega
                clear z1 z2 ho
                go_wp2_with (at_builtin; refine wpList_app1 rfl _ _ 23 rfl w.heap.size 5 i0 (.int .u8 0) 1 1 Try.underlying23 HI.out.1 HI.out.2.1 HI.out.2.2.1 HI.out.2.2.2 rfl _ k _ rfl HO.out #[.int .u8 (z : Int)] 1 rfl rfl (by intro u hu; simp at hu; subst hu; rfl) (by omega) (by omega) HBW.out.size ?_; rintro A2 c2 w2 hown2 hk2 - -; have HO2 := Lib.hid hown2; have HB2 := Lib.hid (bkeep HBW.out hk2 (Nat.le_refl _) (fun g hg => (HO.out.lt g hg).1)); clear hown2 hk2)
                go_roundw
                case rel => exact ⟨k + 1, by omega, by go_num, by rw [HTK.out]; first | exact HO2 | exact ⟨HO2, HB2⟩⟩
                case measure => simp [intOf]; omega
              · rw [if_neg ho] at z1
                have l6 : ((Q : Nat) : Int).tmod 2 = 0 := by rw [Int.tmod_eq_emod_of_nonneg (by omega)]; omega
                have l7 : (d : Int) + (P : Int) = (z : Int) := by omega
                clear z1 z2 ho
                go_wp2_with (at_builtin; refine wpList_app1 rfl _ _ 23 rfl w.heap.size 5 i0 (.int .u8 0) 1 1 Try.underlying23 HI.out.1 HI.out.2.1 HI.out.2.2.1 HI.out.2.2.2 rfl _ k _ rfl HO.out #[.int .u8 (z : Int)] 1 rfl rfl (by intro u hu; simp at hu; subst hu; rfl) (by omega) (by omega) HBW.out.size ?_; rintro A2 c2 w2 hown2 hk2 - -; have HO2 := Lib.hid hown2; have HB2 := Lib.hid (bkeep HBW.out hk2 (Nat.le_refl _) (fun g hg => (HO.out.lt g hg).1)); clear hown2 hk2)
                go_roundw
                case rel => exact ⟨k + 1, by omega, by go_num, by rw [HTK.out]; first | exact HO2 | exact ⟨HO2, HB2⟩⟩
                case measure => simp [intOf]; omega
        · rw [if_neg hkq] at htk
          have HTK : Hid (u8s (t.take (k + 1)) = u8s (t.take k) ++ [.int .u8 (d : Int)]) := by
            show _ = _
            unfold u8s
            rw [List.take_add_one, htk, Option.toList_some, List.map_append]
            rfl
          have l8 : IntKind.u8.wrap (d : Int) = (d : Int) := u8_wrap d (by omega)
          have hne : ((k : Int) == (q : Int)) = false := by simp; omega
          have hne2 : ¬ (k : Int) = (q : Int) := by omega
          have hq63 : wrap64 (q : Int) = (q : Int) := IntWalk.wrap64_in _ (by have := HQ8.out; omega)
          clear htk hdd
          go_wp2_with (at_builtin; refine wpList_app1 rfl _ _ 23 rfl w.heap.size 5 i0 (.int .u8 0) 1 1 Try.underlying23 HI.out.1 HI.out.2.1 HI.out.2.2.1 HI.out.2.2.2 rfl _ k _ rfl HO.out #[.int .u8 (d : Int)] 1 rfl rfl (by intro u hu; simp at hu; subst hu; rfl) (by omega) (by omega) HBW.out.size ?_; rintro A2 c2 w2 hown2 hk2 - -; have HO2 := Lib.hid hown2; have HB2 := Lib.hid (bkeep HBW.out hk2 (Nat.le_refl _) (fun g hg => (HO.out.lt g hg).1)); clear hown2 hk2)
          go_roundw
          case rel => exact ⟨k + 1, by omega, by go_num, by rw [HTK.out]; first | exact HO2 | exact ⟨HO2, HB2⟩⟩
          case measure => simp [intOf]; omega
      · obtain rfl : k = bs.length := by omega
        obtain ⟨oA, oc, rfl⟩ := ownsRow_slice HO.out
        have hrd := Reads.of_owns HO.out
        have htt : t.take bs.length = t := by rw [← HTL.out, List.take_length]
        rw [htt] at hrd
        have hcv := conv_ints hrd
        have HBB := Lib.hid HBW.out
        clear hrd htt HO HBW
        go_wp2
        go_ret
        exact ⟨rfl, HBB.out⟩
theorem refturn_any (bs : List Int) (bit : Int) (w : World) (hb : BtsI bs) (hn : bs.length ≤ 100000) :
    Calls Try.prog 58 #[.string (strOfNums bs), .int .i64 bit] w fun e w' => e = .returned (.string (strOfNums (turnI bs bit))) ∧ Below w.heap.size w w' := by
  rcases Nat.eq_zero_or_pos bs.length with h0 | h0
  · obtain rfl : bs = [] := List.eq_nil_of_length_eq_zero h0
    exact refturn_nil bit w
  · exact refturn_pos bs bit w hb hn h0
end Go.Proofs.Ytlodiibmofeikaa
