/- clr: Pass. -/
import Derived.Test.YthnnhagccemnnaaClr9
import Derived.Deep.RegionWith
import Derived.Deep.QuietTactic
import Derived.BigQuiet
namespace Go.Proofs.Ythnnhagccemnnaa
open Go.RowKit
set_option linter.unusedVariables false
set_option linter.unusedSimpArgs false

/-- does Pass let the CLR go? -/
def goes (l : List Told) (lim c now : Int) : Bool := (lk l c).isSome && (decide ((gotV (lk l c)).tick < now) && decide (lim < now - (gotV (lk l c)).tick))
set_option maxRecDepth 100000 in
set_option maxHeartbeats 1000000 in
theorem pass_no (b : Nat) (v : Value) (l : List Told) (lim c now : Int) (w : World) (h : BkAt w b v l lim c) (hn : l.length ≤ 1000) (ht : 0 ≤ (gotV (lk l c)).tick ∧ (gotV (lk l c)).tick ≤ 1099511627776) (hw : 0 ≤ now ∧ now ≤ 2199023255552) (hg : goes l lim c now = false) :
    Calls Try.prog 12 #[.pointer (some ⟨b, 0, none⟩), .int .i64 now] w fun e w' => e = .returned (.bool false) ∧ Below w.heap.size w w' := by
  have hc := clr_any b v l lim c w h hn
  unfold goes at hg
  generalize gotV (lk l c) = o at *
  generalize hs : (lk l c).isSome = s at *
  have HC := Lib.hid hc
  have H := Lib.hid h
  obtain ⟨t1, t2⟩ := ht
  obtain ⟨n1, n2⟩ := hw
  have HW := Lib.hid (IntWalk.i64_in (now - o.tick) (by omega) : IntKind.i64.wrap (now - o.tick) = now - o.tick)
  clear hc h
  go_enter Try.func12, Try.ntmps12
  go_wp2_with fail
  refine HC.out.mono ?_
  rintro e w1 ⟨rfl, hb1⟩
  obtain ⟨c0, c1, c2⟩ := blk3 (H.out.below hb1).str
  have hbl : b < w1.heap.size := (H.out.below hb1).str.lt
  have HB := Lib.hid hb1
  clear hb1
  cases s
  · go_wp2_with fail
    go_quiet (fail)
    go_wp2
    go_ret
    exact ⟨rfl, below_drewN (HB.out.alloc HB.out.size _) _⟩
  · by_cases g1 : o.tick < now
    · have g2 : ¬ lim < now - o.tick := by simpa [g1] using hg
      have HD2 := Lib.hid (decide_eq_false g2)
      clear g2
      go_wp2_with fail
      have hw := HW.out
      have hd2 := HD2.out
      go_quiet (fail)
      go_wp2
      go_ret
      exact ⟨rfl, below_drewN (HB.out.alloc HB.out.size _) _⟩
    · have HD1 := Lib.hid (decide_eq_false g1)
      clear g1
      go_wp2_with fail
      have hd1 := HD1.out
      go_quiet (fail)
      go_wp2
      go_ret
      exact ⟨rfl, below_drewN (HB.out.alloc HB.out.size _) _⟩
end Go.Proofs.Ythnnhagccemnnaa
