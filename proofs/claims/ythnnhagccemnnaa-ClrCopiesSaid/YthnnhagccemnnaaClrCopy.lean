/- clr: Copy. -/
import Derived.Test.YthnnhagccemnnaaClr3
import Derived.Test.YthnnhagccemnnaaCloneTold
import Derived.Deep.RegionHeld3
namespace Go.Proofs.Ythnnhagccemnnaa
open Go.RowKit
set_option linter.unusedVariables false
set_option linter.unusedSimpArgs false

theorem tolds_one (l : List Told) : ∀ u ∈ l.flatMap toldCells, u.oneCell' = true := by
  intro u hu
  obtain ⟨x, -, hx⟩ := List.mem_flatMap.1 hu
  simp only [toldCells, List.mem_cons, List.not_mem_nil, or_false] at hx
  rcases hx with rfl | rfl | rfl <;> rfl
set_option maxRecDepth 100000 in
set_option maxHeartbeats 1000000 in
theorem copy_any (b : Nat) (v : Value) (l : List Told) (lim c : Int) (w : World) (h : BkAt w b v l lim c) (hn : l.length ≤ 100000) :
    Calls Try.prog 15 #[.pointer (some ⟨b, 0, none⟩)] w fun e w' => ∃ b' v', e = .returned (.pointer (some ⟨b', 0, none⟩)) ∧ BkAt w' b' v' l lim c ∧ w.heap.size ≤ b' ∧ (∀ g, v'.ownBlock = some g → w.heap.size ≤ g) ∧ Below w.heap.size w w' := by
  obtain ⟨A, k, rfl⟩ := h.slice
  obtain ⟨c0, c1, c2⟩ := blk3 h.str
  have HC := Lib.hid (fun w (h : BkAt w b (.slice A l.length k) l lim c) => clone_told (.slice A l.length k) l.length (l.flatMap toldCells) w h.told (by omega) (tolds_one l))
  have HG := Lib.hid h
  have HRI := Lib.hid h.ris
  clear h
  go_enter Try.func15, Try.ntmps15
  go_wp2_with fail
  go_region_held3 (fun w' => w'.cell? ⟨b, 0, none⟩ = some (.int .i64 lim) ∧ w'.cell? ⟨b, 1, none⟩ = some (.slice A l.length k) ∧ w'.cell? ⟨b, 2, none⟩ = some (.int .i64 c)) (first | exact ⟨c0, c1, c2⟩ | exact d1 | exact d2)
    (first
      | (go_at_call 25; refine (HC.out _ (HG.out.drewN 1)).mono ?_; rintro e w1 ⟨A1, cc, rfl, ho1, hb1, hn1⟩; have d1 := blk3 ((HG.out.drewN 1).below hb1).str; have d2 := blk3 (((HG.out.drewN 1).below hb1).below ((Below.refl _ w1).alloc (Nat.le_refl _) (.cells #[.int .i64 lim, .slice A1 l.length cc, .int .i64 c] 54))).str; have HO1 := Lib.hid ho1; have HB1 := Lib.hid hb1; clear ho1 hb1 hn1))
  clear c0 c1 c2 d1 d2
  go_wp2
  go_ret
  have hs1 : w.heap.size ≤ w1.heap.size := HB1.out.size
  have hb : Below w.heap.size w w1 := ⟨HB1.out.os, HB1.out.tape, HB1.out.output, HB1.out.size, HB1.out.block⟩
  have hrow : w1.ownsRow 0 34 3 (.slice A1 l.length cc) l.length (l.flatMap toldCells) := ownsRow_base HO1.out (Nat.zero_le _)
  exact ⟨w1.heap.size, _, rfl, ⟨Blk.new w1 _ _, hrow.alloc _, HRI.out⟩, hs1, fun g hg => (HO1.out.lt g hg).1, hb.alloc hs1 _⟩
end Go.Proofs.Ythnnhagccemnnaa
