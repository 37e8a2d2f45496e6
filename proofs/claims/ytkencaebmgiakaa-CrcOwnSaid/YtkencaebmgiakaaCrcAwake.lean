/- crc: the document's Sealed; awake. -/
import Derived.Test.YtkencaebmgiakaaCrc2
import Derived.Lib.SlBytesConst
namespace Go.Proofs.Ytkencaebmgiakaa
open Go.RowKit
set_option linter.unusedVariables false
set_option linter.unusedSimpArgs false

theorem reads_newm (w : World) (cs : Array Value) (E : TypeId) (fr : Nat × Nat) (n : Nat) (h : cs.size = n) (hn : n ≤ 1000000) : Reads (w.alloc (.cells cs E fr)) 1 (.slice (some ⟨w.heap.size, 0, none⟩) n n) n cs.toList :=
  ⟨by simpa using h, _, n, rfl, Nat.le_refl _, by unfold maxLen; omega, fun ha => (by cases ha), fun a ha _ => by cases ha; exact ⟨rfl, by simp⟩, fun j u hu => ⟨_, rfl, by
    rw [Nat.zero_add, cell_of_row _ _ _ _ _ _ (heap_alloc_new w _)]; simpa using hu⟩⟩

theorem cseal_len (b : List Nat) : (cseal b).length = b.length + 4 := by simp [cseal, cbytes_len]
theorem cseal_take (b : List Nat) : (cseal b).take b.length = b := by simp [cseal]
theorem cseal_drop (b : List Nat) : (cseal b).drop b.length = cbytes (csum b) := by simp [cseal]
theorem opn_cseal (b : List Nat) : opn (cseal b) = true := by
  simp only [opn, cseal_len, Nat.add_sub_cancel, cseal_take, cseal_drop]
  simp
theorem open_sealed (v : Value) (b : List Nat) (w : World) (h : Reads w 1 v (cseal b).length (u8s (cseal b))) (hb : Bts b) (hn : b.length ≤ 1000000) :
    Calls Try.prog 12 #[v] w fun e w' => ∃ A c, e = .returned (.tuple #[.slice A b.length c, .bool true]) ∧ w'.ownsRow w.heap.size 5 1 (.slice A b.length c) b.length (u8s b) ∧ (.slice A b.length c : Value) ≠ .slice none 0 0 ∧ Below w.heap.size w w' := by
  have h1 := open_yes v (cseal b) w h (bts_cseal hb) (by rw [cseal_len]; omega) (opn_cseal b)
  rw [cseal_len, Nat.add_sub_cancel, cseal_take] at h1
  exact h1

instance (b : List Nat) : Decidable (Bts b) := inferInstanceAs (Decidable (∀ c ∈ b, c < 256))
theorem abc_str : bstr [97, 98, 99] = { data := #[97, 98, 99] } := by rfl
theorem sum_nine : csum [49, 50, 51, 52, 53, 54, 55, 56, 57] = 3421780262 := by decide +kernel

set_option maxRecDepth 100000 in
set_option maxHeartbeats 1000000 in
theorem awake_any (w : World) : Calls Try.prog 7 #[] w fun e w' => e = .returned (.bool true) ∧ Below w.heap.size w w' := by
  have kc := fun (w : World) (C : Array Value) (n c : Nat) => Lib.run_convert_bytes_const (P := Try.prog) w 22 5 C n c Try.underlying22 Try.underlying5
  go_enter Try.func7, Try.ntmps7
  go_wp2_with fail
  refine (seal_any _ [97, 98, 99] _ (reads_newm w #[.int .u8 97, .int .u8 98, .int .u8 99] 5 (3, 4) 3 rfl (by omega)) (by decide) (by decide)).mono ?_
  rintro e w1 ⟨v1, rfl, ho1, hv1, hb1⟩
  have q1 : Below w.heap.size w w1 := ((Below.refl _ w).alloc (Nat.le_refl _) _).trans (hb1.mono (by simp))
  have HO1 := Lib.hid ho1
  obtain ⟨g1, c1, rfl, -⟩ := ho1
  clear hv1 hb1
  go_wp2_with fail
  refine (open_sealed _ [97, 98, 99] _ HO1.out.reads (by decide) (by decide)).mono ?_
  rintro e w2 ⟨A2, c2, rfl, ho2, -, hb2⟩
  have HO2 := Lib.hid ho2
  have q2 : Below w.heap.size w w2 := q1.trans (hb2.mono q1.size)
  clear ho2 hb2
  go_wp2_with fail
  refine (open_short _ [1, 2, 3] _ (reads_newm w2 #[.int .u8 1, .int .u8 2, .int .u8 3] 5 (0, 0) 3 rfl (by omega)) (by decide) (by decide)).mono ?_
  rintro e w3 ⟨rfl, m, rfl⟩
  have q3 : Below w.heap.size w ((w2.alloc (.cells #[.int .u8 1, .int .u8 2, .int .u8 3] 5 (0, 0))).drewN m) := below_drewN (q2.alloc q2.size _) m
  have HO3 : Hid (Reads ((w2.alloc (.cells #[.int .u8 1, .int .u8 2, .int .u8 3] 5 (0, 0))).drewN m) 1 (.slice A2 3 c2) 3 (u8s [97, 98, 99])) := ((Reads.of_owns HO2.out).alloc _).drewN m
  generalize (w2.alloc (.cells #[.int .u8 1, .int .u8 2, .int .u8 3] 5 (0, 0))).drewN m = w4 at *
  go_wp2_with fail
  refine (sum_any _ [49, 50, 51, 52, 53, 54, 55, 56, 57] _ (reads_newm w4 #[.int .u8 49, .int .u8 50, .int .u8 51, .int .u8 52, .int .u8 53, .int .u8 54, .int .u8 55, .int .u8 56, .int .u8 57] 5 (9, 10) 9 rfl (by omega)) (by decide)).mono ?_
  rintro e w5 ⟨rfl, rfl⟩
  rw [sum_nine]
  have q4 : Below w.heap.size w (w4.alloc (.cells #[.int .u8 49, .int .u8 50, .int .u8 51, .int .u8 52, .int .u8 53, .int .u8 54, .int .u8 55, .int .u8 56, .int .u8 57] 5 (9, 10))) := q3.alloc q3.size _
  have HO4 := HO3.out.alloc (.cells #[.int .u8 49, .int .u8 50, .int .u8 51, .int .u8 52, .int .u8 53, .int .u8 54, .int .u8 55, .int .u8 56, .int .u8 57] 5 (9, 10))
  have k4 := conv_str HO4
  rw [abc_str] at k4
  clear HO4
  go_wp2
  go_ret
  exact ⟨rfl, q4⟩
end Go.Proofs.Ytkencaebmgiakaa
