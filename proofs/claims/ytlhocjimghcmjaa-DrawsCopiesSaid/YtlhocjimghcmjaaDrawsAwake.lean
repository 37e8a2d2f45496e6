import Derived.Test.YtlhocjimghcmjaaDrawsRef
namespace Go.Proofs.Ytlhocjimghcmjaa
open Go.RowKit
set_option linter.unusedVariables false
set_option linter.unusedSimpArgs false

set_option maxRecDepth 100000 in
set_option maxHeartbeats 1000000 in
theorem awake10 (w : World) : Calls Try.prog 7 #[] w fun e w' => e = .returned (.bool true) ∧ Below w.heap.size w w' := by
  have hr : Reads (w.alloc (.cells #[.int .u32 7] 27)) 1 (.slice (some ⟨w.heap.size, 0, none⟩) 1 1) 1 [.int .u32 7] := Reads.new w _ _ 1 1 rfl (by omega)
  have hn := new_any _ [7] _ hr (by simp)
  have hs0 : (w.alloc (.cells #[.int .u32 7] 27)).heap.size = w.heap.size + 1 := by simp
  have hb0 : Below w.heap.size w (w.alloc (.cells #[.int .u32 7] 27)) := (Below.refl _ _).alloc (Nat.le_refl _) _
  generalize hw : w.alloc (.cells #[.int .u32 7] 27) = w0 at *
  have HW := Lib.hid hw
  clear hw hr
  go_enter Try.func7, Try.ntmps7
  go_wp2_with fail
  rw [HW.out]
  refine hn.mono ?_
  rintro e w1 ⟨b, rfl, h1, hb1⟩
  have n1 := next_any b _ [7] 0 w1 h1 (by omega) (by simp)
  rw [show drawAt [7] 0 = 7 from rfl] at n1
  go_wp2_with fail
  refine n1.mono ?_
  rintro e w2 ⟨rfl, h2, k2⟩
  have n2 := next_any b _ [7] 1 w2 h2 (by omega) (by simp)
  rw [show drawAt [7] 1 = 1025555898 by simp [drawAt, stp]] at n2
  go_wp2_with fail
  refine n2.mono ?_
  rintro e w3 ⟨rfl, h3, k3⟩
  go_wp2_with fail
  refine (told_any b _ [7] 2 w3 h3).mono ?_
  rintro e w4 ⟨rfl, rfl⟩
  have hn2 := new_any (.slice none 0 0) [] w4 (Reads.nil _ _) (by simp)
  go_wp2_with fail
  refine hn2.mono ?_
  rintro e w5 ⟨b5, rfl, h5, hb5⟩
  have n3 := next_any b5 _ [] 0 w5 h5 (by omega) (by simp)
  rw [show drawAt [] 0 = 1013904223 by simp [drawAt, stp]] at n3
  go_wp2_with fail
  refine n3.mono ?_
  rintro e w6 ⟨rfl, h6, k6⟩
  go_wp2
  go_ret
  have s1 := hb1.size
  have s2 := k2.size
  have s3 := k3.size
  have s5 := hb5.size
  refine ⟨rfl, ?_⟩
  have q1 := bmore hb0 hb1 (by omega)
  have q2 := bkeep q1 k2 (Nat.le_refl _) (fun k hk => by have := hk.1; omega)
  have q3 := bkeep q2 k3 (Nat.le_refl _) (fun k hk => by have := hk.1; omega)
  have q5 := bmore q3 hb5 (by omega)
  exact bkeep q5 k6 (Nat.le_refl _) (fun k hk => by have := hk.1; omega)
end Go.Proofs.Ytlhocjimghcmjaa
