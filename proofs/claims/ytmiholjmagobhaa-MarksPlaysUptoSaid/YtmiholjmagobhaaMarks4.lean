/- marks: a new chooser; whose markers are due. -/
import Derived.Test.YtmiholjmagobhaaMarks3
namespace Go.Proofs.Ytmiholjmagobhaa
open Go.RowKit
set_option linter.unusedVariables false
set_option linter.unusedSimpArgs false

def Cho.fresh0 (first longest fresh : Int) : Cho := ⟨-1, fun _ => first, fun _ => 0, fun _ => 0, longest, fresh, []⟩
/-- k of the waits are set -/
def Cho.part (first longest fresh : Int) (k : Nat) : Cho := ⟨-1, fun i => if i < k then first else 0, fun _ => 0, fun _ => 0, longest, fresh, []⟩
theorem part_set (first longest fresh : Int) (v : Value) {k : Nat} (h : k < 8) : (choCells (Cho.part first longest fresh k) v).setIfInBounds (1 + k * 3) (.int .i64 first) = choCells (Cho.part first longest fresh (k + 1)) v := by
  rcases k with _|_|_|_|_|_|_|_|k <;> first | rfl | omega
theorem part_all (first longest fresh : Int) (v : Value) : choCells (Cho.part first longest fresh 8) v = choCells (Cho.fresh0 first longest fresh) v := rfl

def NewOk (first longest fresh : Int) : Prop := 1 ≤ first ∧ first ≤ 65536 ∧ first ≤ longest ∧ longest ≤ 1048576 ∧ 0 ≤ fresh ∧ fresh ≤ 1048576

set_option maxRecDepth 100000 in
set_option maxHeartbeats 1000000 in
theorem new_no (first longest fresh : Int) (w : World) (h : ¬ NewOk first longest fresh) :
    Calls Try.prog 9 #[.int .i64 first, .int .i64 longest, .int .i64 fresh] w fun e w' => e = .returned (.tuple #[.pointer none, .int .i64 11]) ∧ w' = w := by
  unfold NewOk at h
  rcases (by omega : first < 1 ∨ (1 ≤ first ∧ 65536 < first) ∨ (1 ≤ first ∧ first ≤ 65536 ∧ longest < first) ∨ (1 ≤ first ∧ first ≤ 65536 ∧ first ≤ longest ∧ 1048576 < longest) ∨ (1 ≤ first ∧ first ≤ 65536 ∧ first ≤ longest ∧ longest ≤ 1048576 ∧ fresh < 0) ∨ (1 ≤ first ∧ first ≤ 65536 ∧ first ≤ longest ∧ longest ≤ 1048576 ∧ 0 ≤ fresh ∧ 1048576 < fresh)) with
    g1 | ⟨g1, g2⟩ | ⟨g1, g2, g3⟩ | ⟨g1, g2, g3, g4⟩ | ⟨g1, g2, g3, g4, g5⟩ | ⟨g1, g2, g3, g4, g5, g6⟩
  all_goals
    clear h
    go_enter Try.func9, Try.ntmps9
    go_wp2
    go_ret2
    exact ⟨rfl, rfl⟩

set_option maxRecDepth 100000 in
set_option maxHeartbeats 1000000 in
theorem new_yes (first longest fresh : Int) (w : World) (h : NewOk first longest fresh) :
    Calls Try.prog 9 #[.int .i64 first, .int .i64 longest, .int .i64 fresh] w fun e w' => ∃ b, e = .returned (.tuple #[.pointer (some ⟨b, 0, none⟩), .int .i64 0]) ∧ ChoAt w' (Btw w.heap.size w'.heap.size) b (Cho.fresh0 first longest fresh) ∧ Below w.heap.size w w' := by
  obtain ⟨g1, g2, g3, g4, g5, g6⟩ := h
  go_enter Try.func9, Try.ntmps9
  go_wp2
  go_loopw [9, 37] (fun _ i wr => ∃ k : Nat, k ≤ 8 ∧ i = .int .i64 k ∧ Hid (Blk wr w.heap.size (choCells (Cho.part first longest fresh k) (.slice none 0 0)) 63) ∧ Below w.heap.size w wr) (fun _ i _ => 8 - (intOf i).toNat)
  case atStart => exact ⟨0, by omega, rfl, Blk.new _ _ _, (Below.refl _ _).alloc (Nat.le_refl _) _⟩
  case round =>
    obtain ⟨k, hk, rfl, hB, hb⟩ := hrel
    by_cases hlt : k < 8
    · have hc := hB.out.cell _ (cho_wait _ _ hlt)
      have hf := hB.out.frozen (1 + k * 3)
      have i8 : (k : Int) < 8 := by omega
      go_wp2
      go_roundw
      case rel => exact ⟨k + 1, by omega, by go_num, hB.out.set' (part_set _ _ _ _ hlt), hb.setCell (Nat.le_refl _) _⟩
      case measure => simp [intOf]; omega
    · obtain rfl : k = 8 := by omega
      go_wp2
      go_ret2
      refine ⟨_, rfl, ⟨_, (part_all first longest fresh _) ▸ hB.out, World.ownsRow_nil _ _ _ _, ⟨Nat.le_refl _, hB.out.lt⟩, fun g hg => by simp [Value.ownBlock] at hg⟩, hb⟩
end Go.Proofs.Ytmiholjmagobhaa
