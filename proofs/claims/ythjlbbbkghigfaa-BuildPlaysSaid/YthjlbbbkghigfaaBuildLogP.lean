/- build: what the log tells, in plain Lean. -/
import Derived.Test.YthjlbbbkghigfaaBuildOps
namespace Go.Proofs.Ythjlbbbkghigfaa
open Go.RowKit
set_option linter.unusedVariables false
set_option linter.unusedSimpArgs false

theorem putE_zero {x : BuS} {block tick : Int} {m : Nat} (h : putE x block tick m = 0) : x.ov = false ∧ (0 ≤ block ∧ block < nb x.s x.k) ∧ (0 ≤ tick ∧ tick ≤ 1099511627776) ∧ (m : Int) = min (block * x.k + x.k) x.s - block * x.k ∧ cov x.L block = false := by
  unfold putE at h
  split at h
  · cases h
  · split at h
    · cases h
    · split at h
      · cases h
      · split at h
        · cases h
        · rename_i q1 q2 q3 q4
          exact ⟨by simpa using q1, by omega, by omega, by omega, by simpa using q4⟩
def LogOk (x : BuS) : Prop := (∀ g ∈ x.log, ∃ i : Nat, i < nb x.s x.k ∧ g.block = i ∧ g.fr = ((i * x.k : Nat) : Int) ∧ g.to = ((min (i * x.k + x.k) x.s : Nat) : Int)) ∧ (x.log.map (·.block)).Nodup ∧ ∀ t, cov x.L t = true ↔ ∃ g ∈ x.log, g.block = t
theorem LogOk.put {x x' : BuS} {block tick : Int} {bs : List Int} {w w' : World} (h : LogOk x) (hp : PutR x block tick bs w w' x') : LogOk x' := by
  obtain ⟨h1, h2, h3⟩ := h
  have hs := hp.same.2.2.2.1
  have hk := hp.same.2.2.2.2.1
  by_cases hE : putE x block tick bs.length = 0
  · obtain ⟨y1, -, y3⟩ := hp.yes hE
    obtain ⟨-, hb, -, -, hc⟩ := putE_zero hE
    obtain ⟨i, rfl⟩ : ∃ i : Nat, block = i := ⟨block.toNat, by omega⟩
    have e1 : (i : Int) * x.k = ((i * x.k : Nat) : Int) := (Int.natCast_mul _ _).symm
    unfold LogOk
    rw [hs, hk, y3]
    refine ⟨fun g hg => ?_, ?_, fun t => ?_⟩
    · rcases List.mem_append.1 hg with hg | hg
      · exact h1 g hg
      · simp at hg
        subst hg
        exact ⟨i, by omega, rfl, e1, by show min ((i : Int) * x.k + x.k) (x.s : Int) = _; rw [e1]; omega⟩
    · rw [List.map_append, List.nodup_append]
      refine ⟨h2, by simp, fun a ha c hc' e => ?_⟩
      simp at hc'
      subst hc'
      subst e
      obtain ⟨g, hg, he⟩ := List.mem_map.1 ha
      rw [(h3 i).2 ⟨g, hg, he⟩] at hc
      cases hc
    · rw [y1 t]
      constructor
      · intro e
        rcases Bool.or_eq_true _ _ ▸ e with e | e
        · obtain ⟨g, hg, he⟩ := (h3 t).1 e
          exact ⟨g, by simp [hg], he⟩
        · exact ⟨⟨(i : Int), i * x.k, min ((i : Int) * x.k + x.k) x.s, tick⟩, by simp, (of_decide_eq_true e).symm⟩
      · rintro ⟨g, hg, he⟩
        rcases List.mem_append.1 hg with hg | hg
        · rw [(h3 t).2 ⟨g, hg, he⟩]; rfl
        · simp at hg
          subst hg
          have he : (i : Int) = t := he
          rw [decide_eq_true he.symm, Bool.or_true]
  · obtain ⟨y1, -, y3⟩ := hp.no hE
    unfold LogOk
    rw [hs, hk, y3, y1]
    exact ⟨h1, h2, h3⟩
/-- is byte n of a block that is among those given out? -/
def cntB (l : List Giv) (k : Nat) (n : Int) : Bool := l.any (fun g => decide (g.block = ((n.toNat / k : Nat) : Int)))
theorem bitV_congr {N : Nat} {f g : Int → Bool} (h : ∀ i : Nat, i < N → f i = g i) : bitV N f = bitV N g := by
  unfold bitV
  apply List.map_congr_left
  intro i hi
  rw [h i (List.mem_range.1 hi)]
theorem bitV_len (N : Nat) (f : Int → Bool) : (bitV N f).length = N := by unfold bitV; simp
theorem bitV_set {N : Nat} {f : Int → Bool} {j : Nat} (hj : j < N) (v : Bool) : (bitV N f).set j (.int .i64 (b01 v)) = bitV N (fun n => if n = (j : Int) then v else f n) := by
  apply List.ext_getElem?
  intro i
  rw [List.getElem?_set]
  by_cases h : i < N
  · by_cases e : j = i
    · subst e
      rw [if_pos rfl, if_pos (by rw [bitV_len]; exact h), bitV_get h]
      simp
    · rw [if_neg e, bitV_get h, bitV_get h]
      have : ¬ (i : Int) = (j : Int) := by omega
      simp [this]
  · rw [List.getElem?_eq_none (l := bitV N (fun n => if n = (j : Int) then v else f n)) (by rw [bitV_len]; omega)]
    rw [if_neg (by omega), List.getElem?_eq_none (by rw [bitV_len]; omega)]
theorem blk_of {k i p s : Nat} (hk : 1 ≤ k) (hp : p < s) : p / k = i ↔ i * k ≤ p ∧ p < min (i * k + k) s := by
  constructor
  · rintro rfl
    have h1 := Nat.div_add_mod p k
    have h2 := Nat.mod_lt p (show 0 < k by omega)
    rw [Nat.mul_comm] at h1
    omega
  · intro ⟨h1, h2⟩
    refine Nat.div_eq_of_lt_le h1 ?_
    rw [Nat.add_mul]
    omega
/-- the next one: none of its bytes was counted -/
theorem cnt_none {x : BuS} {j i p : Nat} {g : Giv} (h : LogOk x) (hk : 1 ≤ x.k) (hg : x.log[j]? = some g) (hi : g.block = (i : Int)) (h1 : i * x.k ≤ p) (h2 : p < min (i * x.k + x.k) x.s) : cntB (x.log.take j) x.k p = false := by
  rw [Bool.eq_false_iff]
  intro hc
  obtain ⟨g', hg', he⟩ := List.any_eq_true.1 hc
  have he := of_decide_eq_true he
  rw [Int.toNat_natCast, (blk_of (i := i) hk (show p < x.s by omega)).2 ⟨h1, h2⟩, ← hi] at he
  obtain ⟨r, hr, hr2⟩ := List.getElem_of_mem hg'
  rw [List.length_take] at hr
  have hj : j < x.log.length := (List.getElem?_eq_some_iff.1 hg).1
  have hne := (List.pairwise_iff_getElem.1 h.2.1) r j (by simp; omega) (by simpa using hj) (by omega)
  apply hne
  rw [List.getElem_take] at hr2
  rw [List.getElem_map, List.getElem_map, hr2, (List.getElem?_eq_some_iff.1 hg).2, he]
/-- behind the next one -/
theorem cnt_next {x : BuS} {j i p : Nat} {g : Giv} (hk : 1 ≤ x.k) (hg : x.log[j]? = some g) (hi : g.block = (i : Int)) (hp : p < x.s) : (cntB (x.log.take j) x.k p || (decide (((i * x.k : Nat) : Int) ≤ (p : Int)) && decide ((p : Int) < ((min (i * x.k + x.k) x.s : Nat) : Int)))) = cntB (x.log.take (j + 1)) x.k p := by
  unfold cntB
  rw [List.take_add_one, hg, List.any_append]
  congr 1
  simp only [Option.toList_some, List.any_cons, List.any_nil, Bool.or_false, Int.toNat_natCast]
  rw [hi]
  have := blk_of (i := i) hk hp
  rw [Bool.eq_iff_iff]
  simp only [Bool.and_eq_true, decide_eq_true_iff]
  omega
theorem cnt_all {x : BuS} {i : Nat} (h : LogOk x) (hk : 1 ≤ x.k) : cntB x.log x.k ((i * x.k : Nat) : Int) = cov x.L i := by
  unfold cntB
  rw [Int.toNat_natCast, Nat.mul_div_cancel _ (by omega), Bool.eq_iff_iff, h.2.2]
  simp
end Go.Proofs.Ythjlbbbkghigfaa
