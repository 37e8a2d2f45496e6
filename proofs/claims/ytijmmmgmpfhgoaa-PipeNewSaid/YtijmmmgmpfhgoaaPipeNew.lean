/- pipe: the law PipeNew. -/
import Derived.Test.YtijmmmgmpfhgoaaPipeAw
namespace Go.Proofs.Ytijmmmgmpfhgoaa
open Go.RowKit Go.Shelf
set_option linter.unusedVariables false
set_option linter.unusedSimpArgs false

theorem put1_len {l : List Msg} {p : Nat} {m : Msg} (h : p ≤ l.length) : (put1 l p m).length = l.length + 1 := by unfold put1; simp; omega
set_option maxRecDepth 100000 in
theorem pipeNew_no (room : Int) (w : World) (h : room < 1 ∨ 256 < room) :
    Calls Try.prog 3 #[.int .i64 room] w fun e w' => e = .returned (.bool true) ∧ Below w.heap.size w w' := by
  have HNN := Lib.hid (new_no room w h)
  have HAW := Lib.hid awake_any
  rcases (by omega : room < 1 ∨ (1 ≤ room ∧ 256 < room)) with g | ⟨g, g'⟩
  all_goals
    clear h
    go_enter Try.func3, Try.ntmps3
    go_wp2_with fail
    refine HNN.out.mono ?_
    rintro e w1 ⟨rfl, rfl⟩
    go_wp2_with fail
    refine (HAW.out _).mono ?_
    rintro e w2 ⟨rfl, hb2⟩
    go_wp2
    go_ret
    exact ⟨by simp, hb2⟩
set_option maxRecDepth 100000 in
set_option maxHeartbeats 2000000 in
theorem pipeNew_yes (room : Int) (w : World) (h1 : 1 ≤ room) (h2 : room ≤ 256) :
    Calls Try.prog 3 #[.int .i64 room] w fun e w' => e = .returned (.bool true) ∧ Below w.heap.size w w' := by
  have HNY := Lib.hid (new_ok room w h1 h2)
  have HAW := Lib.hid awake_any
  have HPA := Lib.hid (@put_any (Far w (fun _ => False)))
  have HRM := Lib.hid (@room_any (Far w (fun _ => False)))
  have HCL := Lib.hid (@clear_any (Far w (fun _ => False)))
  obtain ⟨n, rfl⟩ : ∃ n : Nat, room = n := ⟨room.toNat, by omega⟩
  go_enter Try.func3, Try.ntmps3
  go_wp2_with fail
  refine HNY.out.mono ?_
  rintro e w1 ⟨b, rfl, hp1, hb1⟩
  have H1 : Hid (PAt w1 (Far w (fun _ => False)) b (.slice none 0 0) [] (n : Int)) := hp1.mono (fun q hq _ => ⟨hq, id⟩)
  have HB1 := Lib.hid hb1
  clear hp1 hb1
  go_wp2_with fail
  go_loopw [33] (fun i wr => ∃ k : Nat, k ≤ n ∧ i = .int .i64 k ∧ ∃ v l, Hid (PAt wr (Far w (fun _ => False)) b v l (n : Int)) ∧ Hid (Below w.heap.size w wr) ∧ Hid (l.length = k)) (fun i _ => n - (intOf i).toNat)
  case atStart => exact ⟨0, by omega, rfl, .slice none 0 0, [], H1, HB1, rfl⟩
  case round =>
    obtain ⟨k, hk, rfl, v, l, HP, HB, HL⟩ := hrel
    by_cases hlt : k < n
    · have hb0 : Below wr.heap.size wr (wr.alloc (.cells #[.int .u8 (k : Int)] 5)) := (Below.refl _ wr).alloc (Nat.le_refl _) _
      have HPx := Lib.hid (HP.out.below hb0)
      have HBx := Lib.hid (bmore HB.out hb0 HB.out.size)
      have HRx : Hid (Reads (wr.alloc (.cells #[.int .u8 (k : Int)] 5)) 1 (.slice (some ⟨wr.heap.size, 0, none⟩) 1 1) 1 (u8s [(k : Int)])) := reads_newm wr #[.int .u8 (k : Int)] 5 (0, 0) 1 rfl (by omega)
      have hpe : putE l (n : Int) ((k : Int) % 7) 1 = 0 := by unfold putE; rw [if_neg (by omega), if_neg (by rw [HL.out]; omega)]
      have HPE := Lib.hid hpe
      have hpu := HPA.out b v l (n : Int) ((k : Int) % 7) _ 1 1 [(k : Int)] _ HPx.out (by have := HL.out; omega) (by omega) HRx.out rfl
      rw [hpe] at hpu
      have HPU := Lib.hid hpu
      clear hb0 hpe hpu
      go_wp2_with fail
      refine HPU.out.mono ?_
      rintro e w2 ⟨rfl, r2⟩
      have H2 : Hid (∃ v l', PAt w2 (Far w (fun _ => False)) b v l' (n : Int) ∧ l'.length = k + 1) := by
        obtain ⟨v', l', h1, h2⟩ := r2.far HBx.out.size (fun q e => e.elim)
        rcases h2 with ⟨h2, -⟩ | ⟨-, m, rfl, -, -⟩
        · exact absurd HPE.out h2
        · exact ⟨v', _, h1, by rw [put1_len (dueN_le _ _), HL.out]⟩
      have HB2 := Lib.hid (bkeep HBx.out r2.kp (Nat.le_refl _) (fun q h => h.1))
      clear r2
      obtain ⟨v2, l2, hp2, hl2⟩ := H2.out
      go_wp2_with fail
      go_roundw
      case rel => exact ⟨k + 1, by omega, by go_num, v2, l2, hp2, HB2, hl2⟩
      case measure => simp [intOf]; omega
    · obtain rfl : k = n := by omega
      have hpe : putE l (k : Int) 0 0 = 15 := by unfold putE; rw [if_neg (by omega), if_pos (by rw [HL.out]; exact Int.le_refl _)]
      have HPU := Lib.hid (HPA.out b v l (k : Int) 0 none 0 0 [] wr HP.out (by have := HL.out; omega) (by omega) (Reads.nil _ _) rfl)
      rw [hpe] at HPU
      have HPE := Lib.hid hpe
      clear hpe
      obtain ⟨wb, hwb⟩ : ∃ wb : World, wb = wr := ⟨_, rfl⟩
      rw [← hwb] at HP HB HPU ⊢
      clear hwb
      go_wp2_with fail
      refine HPU.out.mono ?_
      rintro e w2 ⟨rfl, r2⟩
      have H2 : Hid (∃ v, PAt w2 (Far w (fun _ => False)) b v l (k : Int)) := by
        obtain ⟨v', l', h1, h2⟩ := r2.far HB.out.size (fun q e => e.elim)
        rcases h2 with ⟨-, rfl⟩ | ⟨h2, -⟩
        · exact ⟨v', h1⟩
        · rw [HPE.out] at h2; cases h2
      have HB2 := Lib.hid (bkeep HB.out r2.kp (Nat.le_refl _) (fun q h => h.1))
      clear r2
      obtain ⟨v2, hp2⟩ := H2.out
      have hrm := HRM.out b v2 l (k : Int) w2 hp2 (by have := HL.out; omega) (by omega)
      rw [HL.out, show (k : Int) - (k : Int) = 0 by omega] at hrm
      have HR2 := Lib.hid hrm
      have HP2 := Lib.hid hp2
      clear hrm hp2 H2 HP HB HPU
      go_wp2_with fail
      refine HR2.out.mono ?_
      rintro e w3 ⟨rfl, hb3⟩
      have HP3 := Lib.hid (HP2.out.below hb3)
      have HB3 := Lib.hid (bmore HB2.out hb3 HB2.out.size)
      have hcl := HCL.out b v2 l (k : Int) w3 HP3.out (by have := HL.out; omega)
      rw [HL.out] at hcl
      have HC3 := Lib.hid hcl
      clear hcl hb3 HP2 HB2 HR2
      go_wp2_with fail
      refine HC3.out.mono ?_
      rintro e w4 ⟨rfl, hp4, hk4⟩
      obtain ⟨v4, hp4⟩ := hp4
      have HB4 := Lib.hid (bkeep HB3.out hk4 (Nat.le_refl _) (fun q h => h.1))
      have hrm := HRM.out b v4 [] (k : Int) w4 hp4 (by simp) (by omega)
      simp only [List.length_nil] at hrm
      rw [show (k : Int) - ((0 : Nat) : Int) = (k : Int) by omega] at hrm
      have HR4 := Lib.hid hrm
      clear hrm hp4 hk4 HP3 HB3 HC3
      go_wp2_with fail
      refine HR4.out.mono ?_
      rintro e w5 ⟨rfl, hb5⟩
      have HB5 := Lib.hid (bmore HB4.out hb5 HB4.out.size)
      clear hb5
      go_wp2_with fail
      refine (HAW.out _).mono ?_
      rintro e w6 ⟨rfl, hb6⟩
      have HB6 := Lib.hid (bmore HB5.out hb6 HB5.out.size)
      clear hb6
      go_wp2
      go_ret
      exact ⟨by simp, HB6.out⟩
theorem pipeNew_any (room : Int) (w : World) : Calls Try.prog 3 #[.int .i64 room] w fun e w' => e = .returned (.bool true) ∧ Below w.heap.size w w' := by
  by_cases h : room < 1 ∨ 256 < room
  · exact pipeNew_no room w h
  · exact pipeNew_yes room w (by omega) (by omega)
end Go.Proofs.Ytijmmmgmpfhgoaa
