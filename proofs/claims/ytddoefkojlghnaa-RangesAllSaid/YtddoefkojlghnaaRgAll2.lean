/- ranges: All; what the law's scan finds. -/
import Derived.Test.YtddoefkojlghnaaRgAll
import Derived.Test.YtddoefkojlghnaaRgRef
namespace Go.Proofs.Ytddoefkojlghnaa
open Go.RowKit Go.Shelf
set_option linter.unusedVariables false
set_option linter.unusedSimpArgs false

theorem all_stops (F : Fence) (n : Nat) (hF : F.fn 28) (hro : F.round = none) (hn : 1 ≤ n) (Bs b : Nat) (v : Value) (L : List (Int × Int)) (N : Int) (S : Nat → Prop) (hg : Good (-1) L) (w : World) (hS : ∀ k, S k → k < w.heap.size)
    (hb : ¬ S b) (hv : ∀ g, v.ownBlock = some g → ¬ S g) (hBs : w.cell? ⟨Bs, 0, none⟩ = some (.pointer (some ⟨b, 0, none⟩))) (h : SetAt w b v L N) :
    SeqStopsK F n Try.prog 28 #[.pointer (some ⟨Bs, 0, none⟩)] (fun x : Int => #[Value.int .i64 x]) (KeepC S) (fun ys => ys = nums L) (fun pre => pre <+: nums L) (nums L).length w := fun l J Jx W hW hJ _ hY h0 =>
  all1_in F n hF hro hn l Bs b w.heap.size v L N S hg J Jx W hS hW.size hJ hb hv hY ((World.cell?_of_block (w := w) (hW.block _ (World.block_lt_of_cell? _ _ hBs))).trans hBs) (h.below hW) h0
set_option maxRecDepth 100000 in
theorem all_any (b : Nat) (w : World) : Calls Try.prog 20 #[.pointer (some ⟨b, 0, none⟩)] w fun e w' => e = .returned (.func (.func 28) #[] #[.pointer (some ⟨w.heap.size, 0, none⟩)]) ∧ w' = w.alloc (.cells #[.pointer (some ⟨b, 0, none⟩)] 25) := by
  go_enter Try.func20, Try.ntmps20
  go_wp2
  go_ret
  exact ⟨rfl, rfl⟩
theorem mem_numsOf {x : Int × Int} {z : Int} : z ∈ numsOf x ↔ x.1 ≤ z ∧ z < x.2 := by
  unfold numsOf
  rw [List.mem_map]
  constructor
  · rintro ⟨i, hi, rfl⟩
    rw [List.mem_range] at hi
    omega
  · rintro ⟨h1, h2⟩
    exact ⟨(z - x.1).toNat, by rw [List.mem_range]; omega, by omega⟩
theorem mem_nums {L : List (Int × Int)} {z : Int} : z ∈ nums L ↔ cov L z = true := by
  unfold nums
  rw [List.mem_flatMap, cov_iff]
  constructor
  · rintro ⟨x, hx, hz⟩; exact ⟨x, hx, mem_numsOf.1 hz⟩
  · rintro ⟨x, hx, hz⟩; exact ⟨x, hx, mem_numsOf.2 hz⟩
theorem numsOf_sorted (x : Int × Int) : (numsOf x).Pairwise (· < ·) := by
  unfold numsOf
  rw [List.pairwise_map]
  exact List.pairwise_lt_range.imp (fun h => by omega)
theorem nums_sorted : ∀ {L : List (Int × Int)} {lo : Int}, Good lo L → (nums L).Pairwise (· < ·)
  | [], _, _ => List.Pairwise.nil
  | x :: r, lo, g => by
    show (numsOf x ++ nums r).Pairwise (· < ·)
    rw [List.pairwise_append]
    refine ⟨numsOf_sorted x, nums_sorted g.2.2.2, fun a ha b hb => ?_⟩
    have h1 := mem_numsOf.1 ha
    have h2 := g.2.2.2.lo_cov (mem_nums.1 hb)
    omega
theorem nums_len : ∀ {L : List (Int × Int)} {lo : Int}, Good lo L → ((nums L).length : Int) = tot L
  | [], _, _ => rfl
  | x :: r, lo, g => by
    have ih := nums_len g.2.2.2
    have h1 := g.2.1
    show ((numsOf x ++ nums r).length : Int) = _
    rw [tot_cons, List.length_append]
    have : (numsOf x).length = (x.2 - x.1).toNat := by simp [numsOf]
    omega
/-- where the law's scan begins behind what has come -/
def nxt (pre : List Int) : Int := match pre.getLast? with | none => 0 | some p => p + 1
theorem nxt_snoc (pre : List Int) (x : Int) : nxt (pre ++ [x]) = x + 1 := by unfold nxt; simp
theorem nxt_above {pre : List Int} (h : pre.Pairwise (· < ·)) {z : Int} (hz : nxt pre ≤ z) : ∀ p ∈ pre, p < z := fun p hp => by
  rcases List.eq_nil_or_concat pre with rfl | ⟨q, y, rfl⟩
  · cases hp
  · rw [List.concat_eq_append] at h hz hp
    rw [nxt_snoc] at hz
    rw [List.pairwise_append] at h
    rcases List.mem_append.1 hp with hp | hp
    · have := h.2.2 p hp y (by simp); omega
    · rw [List.mem_singleton] at hp; omega
/-- the next one that comes: it is what the scan finds -/
theorem next_one {L : List (Int × Int)} (g : Good (-1) L) {pre : List Int} (hp : pre <+: nums L) (hl : pre.length < (nums L).length) :
    ∃ y, pre ++ [y] <+: nums L ∧ cov L y = true ∧ nxt pre ≤ y ∧ 0 ≤ nxt pre ∧ (∀ z, nxt pre ≤ z → z < y → cov L z = false) ∧ ∀ x, pre ++ [x] <+: nums L → x = y := by
  obtain ⟨rest, hr⟩ := hp
  have hs := nums_sorted g
  rw [← hr, List.pairwise_append] at hs
  cases rest with
  | nil => rw [← hr] at hl; simp at hl
  | cons y ys =>
    have hy : cov L y = true := mem_nums.1 (by rw [← hr]; simp)
    have h0 : 0 ≤ nxt pre := by
      rcases List.eq_nil_or_concat pre with rfl | ⟨q, p, rfl⟩
      · exact Int.le_refl _
      · rw [List.concat_eq_append] at hr ⊢
        rw [nxt_snoc]
        have := g.lo_cov (mem_nums.1 (show p ∈ nums L by rw [← hr]; simp))
        omega
    refine ⟨y, ⟨ys, by rw [← hr]; simp⟩, hy, ?_, h0, fun z h1 h2 => ?_, fun x hx => ?_⟩
    · rcases List.eq_nil_or_concat pre with rfl | ⟨q, p, rfl⟩
      · have := g.lo_cov hy
        show 0 ≤ y
        omega
      · rw [List.concat_eq_append] at hs ⊢
        rw [nxt_snoc]
        have := hs.2.2 p (by simp) y (by simp)
        omega
    · cases hc : cov L z with
      | false => rfl
      | true =>
        have hm := mem_nums.2 hc
        rw [← hr] at hm
        rcases List.mem_append.1 hm with hm | hm
        · have := nxt_above hs.1 h1 z hm; omega
        · rcases List.mem_cons.1 hm with rfl | hm
          · omega
          · have := (List.pairwise_cons.1 hs.2.1).1 z hm; omega
    · obtain ⟨r2, hr2⟩ := hx
      rw [← hr, List.append_assoc] at hr2
      have := List.append_cancel_left hr2
      simp at this
      exact this.1
theorem ownFrom_blk {β : Type} (B : Nat) (b : β → Nat) (cs : β → Array Value) (T : TypeId) : OwnFrom B (fun s W => Blk W (b s) (cs s) T) := fun s W W' row hs hg hr => by
  have h : W'.heap[b s]? = W.heap[b s]? := hg.block (b s) hs.lt (fun e => by
    obtain ⟨_, o, ho, hc⟩ := hr (b s) e.symm
    have h2 : W.heap[b s]? = some (.cells (cs s) T) := hs
    rw [h2] at ho; cases ho; cases hc)
  exact h.trans hs
end Go.Proofs.Ytddoefkojlghnaa
