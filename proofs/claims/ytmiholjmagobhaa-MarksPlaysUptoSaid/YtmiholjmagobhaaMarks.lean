/- marks: a chooser in memory; its methods. -/
import Derived.Test.YtmiholjmagobhaaCloneStep
import Derived.Test.YtmiholjmagobhaaApp
import Derived.Deep.RegionHeld3
import Derived.Deep.RegionLaw
import Derived.Deep.DrawnRows
namespace Go.Proofs.Ytmiholjmagobhaa
open Go.RowKit
set_option linter.unusedVariables false
set_option linter.unusedSimpArgs false

structure Cho where
  level : Int
  wait : Nat → Int
  till : Nat → Int
  join : Nat → Int
  longest : Int
  fresh : Int
  steps : List (Int × Int × Int)
def upd (f : Nat → Int) (n : Nat) (x : Int) : Nat → Int := fun i => if i = n then x else f i
def choCells (c : Cho) (v : Value) : Array Value :=
  #[.int .i64 c.level, .int .i64 (c.wait 0), .int .i64 (c.till 0), .int .i64 (c.join 0), .int .i64 (c.wait 1), .int .i64 (c.till 1), .int .i64 (c.join 1), .int .i64 (c.wait 2), .int .i64 (c.till 2), .int .i64 (c.join 2), .int .i64 (c.wait 3), .int .i64 (c.till 3), .int .i64 (c.join 3), .int .i64 (c.wait 4), .int .i64 (c.till 4), .int .i64 (c.join 4), .int .i64 (c.wait 5), .int .i64 (c.till 5), .int .i64 (c.join 5), .int .i64 (c.wait 6), .int .i64 (c.till 6), .int .i64 (c.join 6), .int .i64 (c.wait 7), .int .i64 (c.till 7), .int .i64 (c.join 7), .int .i64 c.longest, .int .i64 c.fresh, v]
def stepCells (l : List (Int × Int × Int)) : List Value := l.flatMap fun s => [.int .i64 s.1, .int .i64 s.2.1, .int .i64 s.2.2]
theorem stepCells_snoc (l : List (Int × Int × Int)) (s : Int × Int × Int) : stepCells (l ++ [s]) = stepCells l ++ [.int .i64 s.1, .int .i64 s.2.1, .int .i64 s.2.2] := by simp [stepCells]

def ChoAt (w : World) (F : Nat → Prop) (b : Nat) (c : Cho) : Prop :=
  ∃ v, Blk w b (choCells c v) 63 ∧ w.ownsRow 0 56 3 v c.steps.length (stepCells c.steps) ∧ F b ∧ ∀ g, v.ownBlock = some g → F g ∧ g ≠ b
theorem ChoAt.keep {S F : Nat → Prop} {w w' : World} {b : Nat} {c : Cho} (h : ChoAt w F b c) (hk : Keep S w w') (hn : ∀ k, F k → ¬ S k) : ChoAt w' F b c := by
  obtain ⟨v, h1, h2, h3, h4⟩ := h
  exact ⟨v, h1.keep hk (hn _ h3), ownsRow_keep h2 hk (fun g hg => hn _ (h4 g hg).1), h3, h4⟩
theorem cho_till (c : Cho) (v : Value) {n : Nat} (h : n < 8) : (choCells c v)[1 + n * 3 + 1]? = some (.int .i64 (c.till n)) := by
  rcases n with _|_|_|_|_|_|_|_|n <;> first | rfl | omega
theorem cho_wait (c : Cho) (v : Value) {n : Nat} (h : n < 8) : (choCells c v)[1 + n * 3]? = some (.int .i64 (c.wait n)) := by
  rcases n with _|_|_|_|_|_|_|_|n <;> first | rfl | omega
theorem cho_join (c : Cho) (v : Value) {n : Nat} (h : n < 8) : (choCells c v)[1 + n * 3 + 2]? = some (.int .i64 (c.join n)) := by
  rcases n with _|_|_|_|_|_|_|_|n <;> first | rfl | omega

theorem until_any (b : Nat) (F : Nat → Prop) (c : Cho) (n : Int) (w : World) (h : ChoAt w F b c) :
    Calls Try.prog 12 #[.pointer (some ⟨b, 0, none⟩), .int .i64 n] w fun e w' => e = .returned (.int .i64 (if 0 ≤ n ∧ n < 8 then c.till n.toNat else 0)) ∧ w' = w := by
  by_cases g1 : n < 0
  · rw [if_neg (by omega)]
    go_enter Try.func12, Try.ntmps12
    go_wp2
    go_ret
    exact ⟨rfl, rfl⟩
  by_cases g2 : 8 ≤ n
  · rw [if_neg (by omega)]
    go_enter Try.func12, Try.ntmps12
    go_wp2
    go_ret
    exact ⟨rfl, rfl⟩
  rw [if_pos (by omega)]
  obtain ⟨v, h1, -⟩ := h
  obtain ⟨n, rfl⟩ := Int.eq_ofNat_of_zero_le (Int.not_lt.1 g1)
  have hc := h1.cell _ (cho_till c v (n := n) (by omega))
  clear h1
  rw [Int.toNat_natCast]
  go_enter Try.func12, Try.ntmps12
  go_wp2
  go_ret
  exact ⟨rfl, rfl⟩

theorem level_any (b : Nat) (F : Nat → Prop) (c : Cho) (w : World) (h : ChoAt w F b c) :
    Calls Try.prog 21 #[.pointer (some ⟨b, 0, none⟩)] w fun e w' => e = .returned (.int .i64 c.level) ∧ w' = w := by
  obtain ⟨v, h1, -⟩ := h
  have hc := h1.cell 0 (v := .int .i64 c.level) (by rfl)
  clear h1
  go_enter Try.func21, Try.ntmps21
  go_wp2
  go_ret
  exact ⟨rfl, rfl⟩

theorem stepCells_one (l : List (Int × Int × Int)) : ∀ u ∈ stepCells l, u.oneCell' = true := by
  intro u hu
  simp only [stepCells, List.mem_flatMap] at hu
  obtain ⟨s, -, hs⟩ := hu
  simp at hs
  rcases hs with rfl | rfl | rfl <;> rfl

theorem steps_any (b : Nat) (F : Nat → Prop) (c : Cho) (w : World) (h : ChoAt w F b c) (hl : c.steps.length ≤ 100000) :
    Calls Try.prog 22 #[.pointer (some ⟨b, 0, none⟩)] w fun e w' => ∃ A k, e = .returned (.slice A c.steps.length k) ∧ w'.ownsRow w.heap.size 56 3 (.slice A c.steps.length k) c.steps.length (stepCells c.steps) ∧ Below w.heap.size w w' := by
  obtain ⟨v, h1, h2, -⟩ := h
  obtain ⟨A, k, rfl⟩ := ownsRow_slice h2
  have hc := h1.cell 27 (v := .slice A c.steps.length k) (by rfl)
  have hcl := clone_step _ _ _ w (Reads.of_owns h2) (by omega) (stepCells_one _)
  clear h1 h2
  go_enter Try.func22, Try.ntmps22
  go_wp2_with (go_at_call 27; refine hcl.mono ?_; rintro e w1 ⟨A1, c1, rfl, hown, hb, -⟩)
  go_ret
  exact ⟨_, _, rfl, hown, hb⟩

def Cho.to (c : Cho) (level at_ : Int) : Cho := { c with level := level, steps := c.steps ++ [(c.level, level, at_)] }

set_option maxRecDepth 100000 in
set_option maxHeartbeats 1000000 in
theorem to_any (b : Nat) (F : Nat → Prop) (c : Cho) (x y : Int) (w : World) (h : ChoAt w F b c) (hl : c.steps.length ≤ 100000) :
    Calls Try.prog 25 #[.pointer (some ⟨b, 0, none⟩), .int .i64 x, .int .i64 y] w fun e w' => e = .returned (.tuple #[]) ∧ ChoAt w' (fun k => F k ∨ w.heap.size ≤ k) b (c.to x y) ∧ Keep F w w' := by
  obtain ⟨v, h1, h2, hF, hg⟩ := h
  obtain ⟨A, k_, rfl⟩ := ownsRow_slice h2
  obtain ⟨i0, hi, hz0, hz1, hz2⟩ := info_parts info_step
  have hc := h1.cell 27 (v := .slice A c.steps.length k_) (by rfl)
  have hlv := h1.cell 0 (v := .int .i64 c.level) (by rfl)
  have f0 := h1.frozen 27
  have f1 := h1.frozen 0
  have hlt := h1.lt
  have hne := World.new_ne w ⟨b, 27, none⟩ hc
  have HK : ∀ o w1, Keep (fun k => (Value.slice A c.steps.length k_).ownBlock = some k) (w.alloc o).drew w1 → Blk w1 b (choCells c (.slice A c.steps.length k_)) 63 := fun o w1 hk => ((h1.alloc o).drew).keep hk (fun e => (hg b e).2 rfl)
  have H1 := Lib.hid HK
  have H2 := Lib.hid h2
  have HG := Lib.hid hg
  clear h1 h2 hg HK
  go_enter Try.func25, Try.ntmps25
  go_wp2_with fail
  go_region_law
    ((refine step_app1 (by rfl) _ _ 52 (by rfl) 0 56 i0 _ 3 24 Try.underlying52 hi hz0 hz1 hz2 rfl (.slice A c.steps.length k_) c.steps.length (stepCells c.steps) (by rfl) (by first | exact H2.out.alloc _ | exact ownsRow_keep (H2.out.alloc _) ((Keep.refl (fun _ => False) _).drew) (fun _ _ => id)) w.heap.size #[.int .i64 c.level, .int .i64 x, .int .i64 y] (0, 0) 1 (by rfl) (heap_alloc_new w _) rfl (by intro u hu; simp at hu; rcases hu with rfl | rfl | rfl <;> rfl) (by omega) (by omega) (Nat.zero_le _) ?_; intro A1 k1 w1 hown1 hk1 hw1; have HB := Lib.hid (H1.out _ w1 hk1); have hc1 := HB.out.cell 27 (v := .slice A c.steps.length k_) (by rfl); have hc2 := HB.out.cell 0 (v := .int .i64 c.level) (by rfl); have hf1 := HB.out.frozen 27; have hf2 := HB.out.frozen 0))
  all_goals
    go_wp2
    go_end0
    have k2 : Keep (fun k => k = b) w1 ((w1.setCell ⟨b, 27, none⟩ (.slice A1 (c.steps.length + 1) k1)).setCell ⟨b, 0, none⟩ (.int .i64 x)) :=
      ((Keep.refl (fun k => k = b) w1).setCell (p := ⟨b, 27, none⟩) (Or.inl rfl) _).setCell (p := ⟨b, 0, none⟩) (Or.inl rfl) _
    have hnew : ∀ g, (Value.slice A1 (c.steps.length + 1) k1).ownBlock = some g → (F g ∨ w.heap.size ≤ g) ∧ g ≠ b := by
      intro g hg
      rcases hw1 g hg with h | h
      · exact ⟨.inl (HG.out g h).1, (HG.out g h).2⟩
      · simp at h
        exact ⟨.inr (by omega), by omega⟩
    refine ⟨rfl, ⟨_, (HB.out.set' rfl).set' rfl, ?_, .inl hF, hnew⟩, ?_⟩
    · have := ownsRow_keep hown1 k2 (fun g hg e => (hnew g hg).2 e)
      simpa [Cho.to, stepCells_snoc] using this
    · have k0 : Keep F w w1 := (((Keep.refl F w).alloc _).drew).trans hk1 (fun g _ h => (HG.out g h).1)
      exact k0.trans k2 (fun g _ e => e ▸ hF)

end Go.Proofs.Ytmiholjmagobhaa