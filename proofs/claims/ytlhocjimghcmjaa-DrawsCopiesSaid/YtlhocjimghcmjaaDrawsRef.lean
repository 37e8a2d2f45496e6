import Derived.Test.YtlhocjimghcmjaaDraws2
import Derived.Test.YtlhocjimghcmjaaApp
namespace Go.Proofs.Ytlhocjimghcmjaa
open Go.RowKit
set_option linter.unusedVariables false
set_option linter.unusedSimpArgs false

/-- the number ahead of a draw -/
def ahead (l : List Int) (i : Nat) : Int := if i = 0 then 0 else drawAt l (i - 1)
def allD (l : List Int) (n : Nat) : List Int := (List.range n).map (drawAt l)
theorem allD_succ (l : List Int) (n : Nat) : allD l (n + 1) = allD l n ++ [drawAt l n] := by simp [allD, List.range_succ]
theorem stp_pos {f m : Int} : ∀ (k : Nat) (x : Int), 0 < k → 0 ≤ stp f m k x ∧ stp f m k x < 4294967296
  | 1, x, _ => by simp only [stp]; omega
  | k + 2, x, _ => by rw [stp]; exact stp_pos (k + 1) _ (by omega)
theorem drawAt_u32 {l : List Int} (hu : U32 l) (i : Nat) : 0 ≤ drawAt l i ∧ drawAt l i < 4294967296 := by
  unfold drawAt
  split
  · rename_i h
    have := hu (l.getD i 0) (by rw [List.getD_eq_getElem?_getD, List.getElem?_eq_getElem h]; simp)
    exact this
  · exact stp_pos _ _ (by omega)
theorem ahead_u32 {l : List Int} (hu : U32 l) (i : Nat) : 0 ≤ ahead l i ∧ ahead l i < 4294967296 := by
  unfold ahead
  split
  · omega
  · exact drawAt_u32 hu _
theorem stp_succ (f m : Int) : ∀ (k : Nat) (x : Int), stp f m (k + 1) x = (stp f m k x * f + m) % 4294967296
  | 0, x => rfl
  | k + 1, x => by rw [stp, stp_succ f m k, ← stp]
theorem drawAt_in {l : List Int} {i : Nat} (h : i < l.length) : drawAt l i = l.getD i 0 := by unfold drawAt; rw [if_pos h]
theorem drawAt_out {l : List Int} {i : Nat} (h : l.length ≤ i) : drawAt l i = (1664525 * ahead l i + 1013904223) % 4294967296 := by
  unfold drawAt
  rw [if_neg (by omega), stp_succ]
  have e : stp 1664525 1013904223 (i - l.length) (l.getLastD 0) = ahead l i := by
    unfold ahead
    by_cases h0 : i = 0
    · subst h0
      rw [if_pos rfl]
      have : l = [] := List.eq_nil_of_length_eq_zero (by omega)
      subst this; rfl
    · rw [if_neg h0]
      unfold drawAt
      by_cases h1 : i - 1 < l.length
      · rw [if_pos h1, show i - l.length = 0 by omega, show i - 1 = l.length - 1 by omega]
        rw [stp, List.getLastD_eq_getLast?, List.getLast?_eq_getElem?]; simp
      · rw [if_neg h1, show i - 1 - l.length + 1 = i - l.length by omega]
  rw [e, Int.mul_comm]

set_option maxRecDepth 100000 in
set_option maxHeartbeats 1000000 in
theorem all_any (v : Value) (l : List Int) (n : Nat) (w : World) (h : Reads w 1 v l.length (l.map (Value.int .u32))) (hn : n ≤ 100000) (hl : l.length ≤ 1000) (hu : U32 l) :
    Calls Try.prog 9 #[v, .int .i64 n] w fun e w' => ∃ A c, e = .returned (.slice A n c) ∧ w'.ownsRow w.heap.size 27 1 (.slice A n c) n ((allD l n).map (Value.int .u32)) ∧ Below w.heap.size w w' := by
  have HR := Lib.hid h
  obtain ⟨A, c, rfl, -⟩ := h.val
  obtain ⟨i0, hi, hz0, hz1, hz2⟩ := info_parts info_u32
  clear h
  go_enter Try.func9, Try.ntmps9
  go_wp2
  go_loopw [5, 6, 7] (fun o x i wr => ∃ k : Nat, k ≤ n ∧ i = .int .i64 k ∧ x = .int .u64 (ahead l k) ∧ Hid (wr.ownsRow w.heap.size 27 1 o k ((allD l k).map (Value.int .u32))) ∧ Below w.heap.size w wr) (fun _ _ i _ => n - (intOf i).toNat)
  case atStart => exact ⟨0, by omega, rfl, rfl, World.ownsRow_nil _ _ _ _, Below.refl _ _⟩
  case round =>
    obtain ⟨k, hk, rfl, rfl, hown, hb⟩ := hrel
    have hs := hb.size
    have ha := ahead_u32 hu k
    by_cases hlt : k < n
    · by_cases hin : k < l.length
      · obtain ⟨b, o, c', he, hc⟩ := (HR.out.below hb).at k (.int .u32 (l.getD k 0)) (by simp [hin])
        cases he
        have hd := drawAt_in hin
        have hd2 := drawAt_u32 hu k
        rw [← hd] at hc
        have HD : Hid (ahead l (k + 1) = drawAt l k) := rfl
        clear hd
        go_wp2_with (at_builtin; refine wpList_app1 rfl _ _ 22 rfl w.heap.size 27 i0 (.int .u32 0) 1 4 Try.underlying22 hi hz0 hz1 hz2 rfl _ k _ rfl (Hid.out hown) #[.int .u32 (drawAt l k)] 1 rfl rfl (by intro u hu; simp at hu; subst hu; rfl) (by omega) (by omega) hs ?_; rintro A2 c2 w2 hown2 hk2 - -)
        have hb2 : Below w.heap.size w w2 := hb.trans (hk2.below (fun g hg => ((Hid.out hown).lt g hg).1) hs)
        have HO : Hid (w2.ownsRow w.heap.size 27 1 (.slice A2 (k + 1) c2) (k + 1) ((allD l (k + 1)).map (Value.int .u32))) := by
          show World.ownsRow ..
          rw [allD_succ, List.map_append]; exact hown2
        clear hown2
        go_wp2
        go_roundw
        case rel => exact ⟨k + 1, by omega, by go_num, by rw [HD.out], HO, hb2⟩
        case measure => simp [intOf]; omega
      · have hd := drawAt_out (l := l) (i := k) (by omega)
        have HD : Hid (ahead l (k + 1) = (1664525 * ahead l k + 1013904223) % 4294967296) := hd
        have HD2 := Lib.hid hd
        clear hd
        go_wp2_with (at_builtin; refine wpList_app1 rfl _ _ 22 rfl w.heap.size 27 i0 (.int .u32 0) 1 4 Try.underlying22 hi hz0 hz1 hz2 rfl _ k _ rfl (Hid.out hown) #[.int .u32 ((1664525 * ahead l k + 1013904223) % 4294967296)] 1 rfl rfl (by intro u hu; simp at hu; subst hu; rfl) (by omega) (by omega) hs ?_; rintro A2 c2 w2 hown2 hk2 - -)
        have hb2 : Below w.heap.size w w2 := hb.trans (hk2.below (fun g hg => ((Hid.out hown).lt g hg).1) hs)
        have HO : Hid (w2.ownsRow w.heap.size 27 1 (.slice A2 (k + 1) c2) (k + 1) ((allD l (k + 1)).map (Value.int .u32))) := by
          show World.ownsRow ..
          rw [allD_succ, List.map_append, HD2.out]; exact hown2
        clear hown2
        go_wp2
        go_roundw
        case rel => exact ⟨k + 1, by omega, by go_num, by rw [HD.out], HO, hb2⟩
        case measure => simp [intOf]; omega
    · obtain rfl : k = n := by omega
      obtain ⟨A', c', rfl⟩ := ownsRow_slice hown.out
      go_wp2
      go_ret
      exact ⟨_, _, rfl, hown.out, hb⟩
end Go.Proofs.Ytlhocjimghcmjaa
