/- gaps: same; what Tired and Drop leave: the plain law. -/
import Derived.Test.YtkgngmmlfoiajaaGapsStep2
namespace Go.Proofs.Ytkgngmmlfoiajaa
open Go.RowKit
set_option linter.unusedVariables false
set_option linter.unusedSimpArgs false

theorem tired_split (t : Int) (l : List Hole) (j : Nat) : tiredL t l = tiredL t (l.take j) ++ tiredL t (l.drop j) := by
  unfold tiredL
  rw [← List.map_append, ← List.filter_append, List.take_append_drop]
theorem tired_get {t : Int} {l : List Hole} {j : Nat} {o : Hole} (ho : l[j]? = some o) (ht : t ≤ o.tries) : (tiredL t l)[(tiredL t (l.take j)).length]? = some o.block := by
  rw [tired_split t l j, List.getElem?_append_right (Nat.le_refl _), Nat.sub_self, drop_at ho]
  unfold tiredL
  rw [List.filter_cons, if_pos (by simpa using ht)]
  rfl
theorem tired_mem {t : Int} {l : List Hole} {b : Int} (h : b ∈ tiredL t l) : ∃ o ∈ l, o.block = b := by
  unfold tiredL at h
  obtain ⟨o, ho, rfl⟩ := List.mem_map.1 h
  exact ⟨o, (List.mem_filter.1 ho).1, rfl⟩
theorem tired_rise {t : Int} {l : List Hole} (h : Rising l) : (tiredL t l).Pairwise (· < ·) := by
  unfold tiredL
  rw [List.pairwise_map]
  exact (rising_pair.1 h).sublist List.filter_sublist
theorem tired_new {t : Int} {l : List Hole} (h : Rising l) {m : Nat} {b : Int} (hb : (tiredL t l)[m]? = some b) : b ∉ (tiredL t l).take m := by
  intro hm
  have hp := tired_rise (t := t) h
  rw [List.pairwise_iff_getElem] at hp
  obtain ⟨i, hi, e⟩ := List.getElem_of_mem hm
  rw [List.length_take] at hi
  rw [List.getElem_take] at e
  obtain ⟨h1, h2⟩ := List.getElem?_eq_some_iff.1 hb
  have := hp i m (by omega) h1 (by omega)
  omega
theorem drp_less {l : List Hole} (h : Rising l) {r : Int} (hh : has l r = true) : (drp l r).length + 1 = l.length := by
  obtain ⟨o, ho⟩ := Option.isSome_iff_exists.1 hh
  obtain ⟨h1, h2⟩ := (lk_some h).1 ho
  obtain ⟨p, hp, e⟩ := List.getElem_of_mem h1
  have e2 : l[p]? = some o := by rw [List.getElem?_eq_getElem hp, e]
  have e3 := erase_drp h e2
  rw [h2] at e3
  rw [← e3]
  unfold erase1
  simp
  omega

set_option maxRecDepth 100000 in
set_option maxHeartbeats 2000000 in
theorem same_yes (b : Nat) (v : Value) (A : Option Addr) (c n : Nat) (l : List Hole) (f lg : Int) (w : World) (h : GpAt w b v l f lg) (hx : Reads w 4 (.slice A n c) n (l.flatMap holeCells)) (hl : n = l.length) (hn : n ≤ 100000) :
    Calls Try.prog 18 #[.pointer (some ⟨b, 0, none⟩), .slice A n c] w fun e w' => e = .returned (.bool true) ∧ Below w.heap.size w w' := by
  have hh := holes_any b v l f lg w h (by omega)
  rw [← hl] at hh
  have HH := Lib.hid hh
  have HLN := Lib.hid (fun w (h : GpAt w b v l f lg) => len_any b v l f lg w h)
  rw [← hl] at HLN
  have HG := Lib.hid h
  have HX := Lib.hid hx
  have HL := Lib.hid hl
  clear h hx hl hh
  go_enter Try.func18, Try.ntmps18
  go_wp2_with fail
  refine HH.out.mono ?_
  rintro e w1 ⟨A1, c1, rfl, ho1, hb1⟩
  have HR1 := Lib.hid (Reads.of_owns ho1)
  have HB1 := Lib.hid hb1
  clear ho1 hb1
  go_wp2_with fail
  refine (HLN.out w1 (HG.out.below HB1.out)).mono ?_
  rintro e w2 ⟨rfl, rfl⟩
  go_wp2_with fail
  go_loopw [6, 23] (fun _ i wr => ∃ k m : Nat, k ≤ n ∧ i = .int .i64 k ∧ Hid (wr = w1.drewN m)) (fun _ i _ => n - (intOf i).toNat)
  case atStart => exact ⟨0, 0, by omega, rfl, rfl⟩
  case round =>
    obtain ⟨k, m, hk, rfl, HW⟩ := hrel
    by_cases hlt : k < n
    · obtain ⟨a, ha⟩ : ∃ a, l[k]? = some a := ⟨_, List.getElem?_eq_getElem (by rw [← HL.out]; exact hlt)⟩
      obtain ⟨g1, p1, c1', he1, hcs1⟩ := Reads.elem (HR1.out.drewN m) holeCells_len (by omega) ha
      obtain ⟨g2, p2, c2', he2, hcs2⟩ := Reads.elem ((HX.out.below HB1.out).drewN m) holeCells_len (by omega) ha
      have a0 := hcs1 0 _ rfl
      have a1 := hcs1 1 _ rfl
      have a2 := hcs1 2 _ rfl
      have a3 := hcs1 3 _ rfl
      have b0 := hcs2 0 _ rfl
      have b1 := hcs2 1 _ rfl
      have b2 := hcs2 2 _ rfl
      have b3 := hcs2 3 _ rfl
      rw [← HW.out] at a0 a1 a2 a3 b0 b1 b2 b3
      simp only [Nat.add_zero] at a0 b0
      cases he1
      cases he2
      have i1 : (0 : Int) ≤ (k : Int) := by omega
      have i2 : (k : Int) < (n : Int) := by omega
      have t0 : (a.block == a.block) = true := by simp
      have t1 : (a.due == a.due) = true := by simp
      have t2 : (a.wait == a.wait) = true := by simp
      have t3 : (a.tries == a.tries) = true := by simp
      clear ha hcs1 hcs2
      go_wp2_with fail
      go_quiet (fail)
      go_wp2
      go_roundw
      case rel => exact ⟨k + 1, m + nq, by omega, by go_num, Lib.hid (by rw [HW.out]; simp [World.drewN, Nat.add_assoc])⟩
      case measure => simp [intOf]; omega
    · obtain rfl : k = n := by omega
      have hq : Below w.heap.size w wr := by rw [HW.out]; exact below_drewN HB1.out m
      go_wp2
      go_ret
      exact ⟨rfl, hq⟩
end Go.Proofs.Ytkgngmmlfoiajaa
