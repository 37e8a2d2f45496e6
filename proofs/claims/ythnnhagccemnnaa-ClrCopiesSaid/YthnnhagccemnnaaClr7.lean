/- clr: New, Count, Take as a whole. -/
import Derived.Test.YthnnhagccemnnaaClr6
namespace Go.Proofs.Ythnnhagccemnnaa
open Go.RowKit
set_option linter.unusedVariables false
set_option linter.unusedSimpArgs false

theorem take_ok (b : Nat) (v : Value) (l : List Told) (lim c now : Int) (t : Told) (w : World) (h : BkAt w b v l lim c) (hn : l.length ≤ 1000) (hm : mayE l lim t now = 0) :
    Calls Try.prog 11 #[.pointer (some ⟨b, 0, none⟩), .agg #[.int .i64 t.frm, .int .i64 t.tick, .int .u64 t.rate], .int .i64 now] w fun e w' => e = .returned (.int .i64 0) ∧ Tk w w' b v l lim (tkC l c t) t := by
  cases hs : (lk l t.frm).isSome with
  | true => exact take_found b v l lim c now t w h hn hm hs
  | false => exact take_new b v l lim c now t w h hn hm hs

theorem count_any (b : Nat) (v : Value) (l : List Told) (lim c : Int) (w : World) (h : BkAt w b v l lim c) :
    Calls Try.prog 16 #[.pointer (some ⟨b, 0, none⟩)] w fun e w' => e = .returned (.int .i64 l.length) ∧ w = w' := by
  obtain ⟨A, k, rfl⟩ := h.slice
  obtain ⟨c0, c1, c2⟩ := blk3 h.str
  clear h
  go_enter Try.func16, Try.ntmps16
  go_wp2
  go_ret
  exact ⟨rfl, rfl⟩

theorem new_ok (lim : Int) (w : World) (h1 : 1 ≤ lim) (h2 : lim ≤ 1048576) :
    Calls Try.prog 8 #[.int .i64 lim] w fun e w' => ∃ b v, e = .returned (.tuple #[.pointer (some ⟨b, 0, none⟩), .int .i64 0]) ∧ BkAt w' b v [] lim (-1) ∧ w.heap.size ≤ b ∧ (∀ g, v.ownBlock = some g → w.heap.size ≤ g) ∧ Below w.heap.size w w' := by
  go_enter Try.func8, Try.ntmps8
  go_wp2
  go_ret2
  refine ⟨w.heap.size, .slice none 0 0, rfl, ⟨Blk.new w _ _, ?_, ?_⟩, Nat.le_refl _, fun g h => (by cases h), (Below.refl _ w).alloc (Nat.le_refl _) _⟩
  · exact ⟨rfl, .inl ⟨rfl, rfl⟩⟩
  · intro q r o o' _ h; simp at h
theorem new_no (lim : Int) (w : World) (h : lim < 1 ∨ 1048576 < lim) :
    Calls Try.prog 8 #[.int .i64 lim] w fun e w' => e = .returned (.tuple #[.pointer none, .int .i64 11]) ∧ w = w' := by
  by_cases h1 : lim < 1
  · clear h
    go_enter Try.func8, Try.ntmps8
    go_wp2
    go_ret2
    exact ⟨rfl, rfl⟩
  · have h2 : 1048576 < lim := by omega
    clear h
    go_enter Try.func8, Try.ntmps8
    go_wp2
    go_ret2
    exact ⟨rfl, rfl⟩
end Go.Proofs.Ythnnhagccemnnaa
