/- ranges: Copy. -/
import Derived.Test.YtddoefkojlghnaaRanges7
import Derived.Deep.RegionWith
namespace Go.Proofs.Ytddoefkojlghnaa
open Go.RowKit
set_option linter.unusedVariables false
set_option linter.unusedSimpArgs false

/-- what Copy leaves: a set of its own -/
def CopyR (w w' : World) (e : Ending) (l : List (Int × Int)) (N : Int) : Prop := ∃ b v, e = .returned (.pointer (some ⟨b, 0, none⟩)) ∧ SetAt w' b v l N ∧ w.heap.size ≤ b ∧ (∀ g, v.ownBlock = some g → w.heap.size ≤ g) ∧ Below w.heap.size w w'
set_option maxRecDepth 100000 in
set_option maxHeartbeats 1000000 in
theorem copy_any (b : Nat) (v : Value) (l : List (Int × Int)) (N : Int) (w : World) (h : SetAt w b v l N) (hn : l.length ≤ 100000) :
    Calls Try.prog 19 #[.pointer (some ⟨b, 0, none⟩)] w fun e w' => CopyR w w' e l N := by
  have hc := fun w' (hb : Below w.heap.size w w') => clone_pair v l.length (l.flatMap pairCells) w' (h.rd.below hb) (by omega) (pairs_one l)
  have HC := Lib.hid hc
  have H := Lib.hid h
  obtain ⟨c0, c1⟩ := h.c
  have hlt := h.str.lt
  obtain ⟨A, k, rfl⟩ := h.slice
  clear h hc
  go_enter Try.func19, Try.ntmps19
  go_wp2_with fail
  go_region_with (go_at_call 24; refine (HC.out _ ?_).mono ?_; exact ⟨rfl, rfl, rfl, Nat.le_refl _, fun _ _ => rfl⟩; rintro e w1 ⟨A1, c2, rfl, ho, hb, -⟩; have HO := Lib.hid ho; have HB : Hid (Below w.heap.size w w1) := ⟨hb.os, hb.tape, hb.output, hb.size, hb.block⟩; have d1 := (H.out.below HB.out).c.2; clear ho hb)
  all_goals
    have hb2 := Blk.new w1 #[.slice A1 l.length c2, .int .i64 N] 59
    have hba := (Below.refl _ w1).alloc (Nat.le_refl w1.heap.size) (.cells #[.slice A1 l.length c2, .int .i64 N] 59)
    have HS : Hid (SetAt (w1.alloc (.cells #[.slice A1 l.length c2, .int .i64 N] 59)) w1.heap.size (.slice A1 l.length c2) l N) := ⟨hb2, ownsRow_keep (ownsRow_base HO.out (Nat.zero_le _)) (Keep.none hba) (fun _ _ => id)⟩
    have HV : Hid (∀ g, (Value.slice A1 l.length c2).ownBlock = some g → w.heap.size ≤ g) := fun g hg => (HO.out.lt g hg).1
    have HB2 := Lib.hid (bmore HB.out hba HB.out.size)
    clear hb2 hba
    go_wp2
    go_ret
    exact ⟨_, _, rfl, HS.out, HB.out.size, HV.out, HB2.out⟩
end Go.Proofs.Ytddoefkojlghnaa
