/- pipe: Copy: another one, whose messages' bytes are the first one's. -/
import Derived.Test.YtijmmmgmpfhgoaaPipePlays
namespace Go.Proofs.Ytijmmmgmpfhgoaa
open Go.RowKit Go.Shelf
set_option linter.unusedVariables false
set_option linter.unusedSimpArgs false

set_option maxRecDepth 100000 in
set_option maxHeartbeats 1000000 in
theorem copy_any {R G : Nat → Prop} (b : Nat) (v : Value) (l : List Msg) (room : Int) (w : World) (h : PAt R w G b v l room) (hn : l.length ≤ 100000) :
    Calls Try.prog 17 #[.pointer (some ⟨b, 0, none⟩)] w fun e w' => ∃ b' v', e = .returned (.pointer (some ⟨b', 0, none⟩)) ∧ PAt (fun q => q < w.heap.size) w' (fun q => w.heap.size ≤ q) b' v' l room ∧ Below w.heap.size w w' := by
  obtain ⟨A, k, rfl⟩ := h.slice
  obtain ⟨c0, c1⟩ := blk2 h.str
  have HC := Lib.hid (fun w (h : PAt R w G b (.slice A l.length k) l room) => clone_msg (.slice A l.length k) l.length (l.flatMap msgCells) w h.msgs (by omega) (msgs_one l))
  have HG := Lib.hid h
  clear h
  go_enter Try.func17, Try.ntmps17
  go_wp2_with fail
  go_region_held3 (fun w' => w'.cell? ⟨b, 0, none⟩ = some (.int .i64 room) ∧ w'.cell? ⟨b, 1, none⟩ = some (.slice A l.length k)) (first | exact ⟨c0, c1⟩ | exact d1 | exact d2)
    (first
      | (go_at_call 27; refine (HC.out _ (HG.out.below (below_drewN (Below.refl _ w) 1))).mono ?_; rintro e w1 ⟨A1, cc, rfl, ho1, hb1, hn1⟩; have d1 := blk2 ((HG.out.below (below_drewN (Below.refl _ w) 1)).below hb1).str; have d2 := blk2 (((HG.out.below (below_drewN (Below.refl _ w) 1)).below hb1).below ((Below.refl _ w1).alloc (Nat.le_refl _) (.cells #[.int .i64 room, .slice A1 l.length cc] 47))).str; have HO1 := Lib.hid ho1; have HB1 := Lib.hid hb1; clear ho1 hb1 hn1))
  clear c0 c1 d1 d2
  go_wp2
  go_ret
  have hs1 : w.heap.size ≤ w1.heap.size := HB1.out.size
  have hb : Below w.heap.size w w1 := ⟨HB1.out.os, HB1.out.tape, HB1.out.output, HB1.out.size, HB1.out.block⟩
  have hrow : w1.ownsRow 0 53 2 (.slice A1 l.length cc) l.length (l.flatMap msgCells) := ownsRow_base HO1.out (Nat.zero_le _)
  have hb2 : Below w.heap.size w (w1.alloc (.cells #[.int .i64 room, .slice A1 l.length cc] 47)) := hb.alloc hs1 _
  have hown : ∀ g, (Value.slice A1 l.length cc).ownBlock = some g → w.heap.size ≤ g := fun g hg => (HO1.out.lt g hg).1
  refine ⟨w1.heap.size, .slice A1 l.length cc, rfl, ⟨Blk.new w1 _ _, hrow.alloc _, fun m hm => ?_, hs1, hown⟩, hb2⟩
  have h1 := HG.out.by' m hm
  have h2 : MsgOk w (fun q => q < w.heap.size) m := h1.mono (fun q _ hl => hl)
  exact (h2.keep (Keep.none hb2) (fun _ _ => id)).mono (fun q hq _ => ⟨.inr hq, by omega, fun e => by have := hown q e; omega⟩)
end Go.Proofs.Ytijmmmgmpfhgoaa
