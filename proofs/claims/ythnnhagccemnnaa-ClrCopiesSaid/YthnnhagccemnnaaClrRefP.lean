/- clr: the reports that a state of the reference holds, as the book lists them. -/
import Derived.Test.YthnnhagccemnnaaClrRef
namespace Go.Proofs.Ythnnhagccemnnaa
open Go.RowKit
set_option linter.unusedVariables false
set_option linter.unusedSimpArgs false

def ofN (s : CSt) (i : Nat) : Option Told := (s.at' i).map fun p => ⟨(i : Int), p.1, p.2⟩
def told (s : CSt) (k : Nat) : List Told := (List.range k).filterMap (ofN s)
theorem told_succ (s : CSt) (k : Nat) : told s (k + 1) = told s k ++ (ofN s k).toList := by
  unfold told
  rw [List.range_succ, List.filterMap_append]
  congr 1
theorem ofN_frm {s : CSt} {i : Nat} {t : Told} (h : ofN s i = some t) : t.frm = i := by
  unfold ofN at h
  cases e : s.at' i with
  | none => rw [e] at h; cases h
  | some p => rw [e] at h; cases h; rfl
theorem told_mem {s : CSt} {k : Nat} {t : Told} : t ∈ told s k ↔ ∃ i, i < k ∧ ofN s i = some t := by
  unfold told
  simp [List.mem_filterMap]
theorem told_rising (s : CSt) : ∀ k, Rising (told s k)
  | 0 => rising_pair.2 (by simp [told])
  | k + 1 => by
    rw [told_succ, rising_pair, List.pairwise_append]
    refine ⟨rising_pair.1 (told_rising s k), ?_, ?_⟩
    · cases ofN s k <;> simp
    · intro a ha b hb
      obtain ⟨i, hi, hia⟩ := told_mem.1 ha
      have hb' : ofN s k = some b := by simpa using hb
      rw [ofN_frm hia, ofN_frm hb']
      omega
theorem told_len (s : CSt) : ∀ k, (told s k).length ≤ k
  | 0 => by simp [told]
  | k + 1 => by
    rw [told_succ, List.length_append]
    have := told_len s k
    have : (ofN s k).toList.length ≤ 1 := by cases ofN s k <;> simp
    omega
theorem told_lk (s : CSt) (k : Nat) (i : Nat) (h : i < k) : lk (told s k) (i : Int) = ofN s i := by
  cases e : ofN s i with
  | some t => exact (lk_some (told_rising s k)).2 ⟨told_mem.2 ⟨i, h, e⟩, ofN_frm e⟩
  | none =>
    refine lk_none.2 fun o ho he => ?_
    obtain ⟨j, hj, hjo⟩ := told_mem.1 ho
    rw [ofN_frm hjo] at he
    obtain rfl : j = i := by omega
    rw [e] at hjo
    cases hjo
theorem told_out (s : CSt) (k : Nat) (r : Int) (h : r < 0 ∨ (k : Int) ≤ r) : lk (told s k) r = none := by
  refine lk_none.2 fun o ho he => ?_
  obtain ⟨j, hj, hjo⟩ := told_mem.1 ho
  rw [ofN_frm hjo] at he
  omega
/-- two rising lists that answer alike are one -/
theorem rising_ext : ∀ {l l' : List Told}, Rising l → Rising l' → (∀ r, lk l r = lk l' r) → l = l' := by
  have key : ∀ {l l' : List Told}, l.Pairwise (fun a b => a.frm < b.frm) → l'.Pairwise (fun a b => a.frm < b.frm) → (∀ x, x ∈ l ↔ x ∈ l') → l = l' := by
    intro l
    induction l with
    | nil =>
      intro l' _ _ h
      cases l' with
      | nil => rfl
      | cons a t => exact absurd ((h a).2 (by simp)) (by simp)
    | cons a t ih =>
      intro l' p p' h
      cases l' with
      | nil => exact absurd ((h a).1 (by simp)) (by simp)
      | cons a' t' =>
        rw [List.pairwise_cons] at p p'
        have e : a = a' := by
          have h1 := (h a).1 (by simp)
          have h2 := (h a').2 (by simp)
          rcases List.mem_cons.1 h1 with x | x
          · exact x
          · rcases List.mem_cons.1 h2 with y | y
            · exact y.symm
            · have := p'.1 a x; have := p.1 a' y; omega
        subst e
        congr 1
        refine ih p.2 p'.2 fun x => ?_
        have h1 := h x
        simp only [List.mem_cons] at h1
        constructor
        · intro hx
          rcases h1.1 (.inr hx) with y | y
          · subst y; have := p.1 x hx; omega
          · exact y
        · intro hx
          rcases h1.2 (.inr hx) with y | y
          · subst y; have := p'.1 x hx; omega
          · exact y
  intro l l' h h' hx
  refine key (rising_pair.1 h) (rising_pair.1 h') fun x => ?_
  constructor
  · intro hm
    have := (lk_some h).2 ⟨hm, rfl⟩
    rw [hx] at this
    exact ((lk_some h').1 this).1
  · intro hm
    have := (lk_some h').2 ⟨hm, rfl⟩
    rw [← hx] at this
    exact ((lk_some h).1 this).1
/-- a report of n is put, or taken away -/
theorem told_upd (s : CSt) (c : Int) {n : Nat} (x : Option (Int × Int)) {l : List Told} (hr : Rising l) (h : ∀ r : Int, lk l r = if r = (n : Int) then x.map (fun p => ⟨(n : Int), p.1, p.2⟩) else lk (told s 64) r) (hn : n < 64) : l = told ⟨updO s.at' n x, c⟩ 64 := by
  refine rising_ext hr (told_rising _ _) fun r => ?_
  rw [h]
  by_cases hb : r < 0 ∨ 64 ≤ r
  · rw [if_neg (by omega), told_out _ _ _ (by omega), told_out _ _ _ (by omega)]
  · obtain ⟨i, rfl⟩ : ∃ i : Nat, r = i := ⟨r.toNat, by omega⟩
    rw [told_lk _ _ _ (by omega), told_lk _ _ _ (by omega)]
    unfold ofN updO
    by_cases e : i = n
    · subst e; rw [if_pos rfl]; simp
    · rw [if_neg (by omega)]; simp [e]
/-- the one with the least rate, the first of them -/
def lf (l : List Told) : Option Told := l.foldl (fun m t => match m with | none => some t | some x => if t.rate < x.rate then some t else some x) none
theorem lf_app (l : List Told) (t : Told) : lf (l ++ [t]) = some (match lf l with | none => t | some x => if t.rate < x.rate then t else x) := by
  unfold lf
  rw [List.foldl_append]
  simp only [List.foldl_cons, List.foldl_nil]
  cases (List.foldl _ none l) with
  | none => rfl
  | some x => simp only; split <;> rfl
theorem lf_fold_mem : ∀ (l : List Told) (m : Option Told) (t : Told), l.foldl (fun m t => match m with | none => some t | some x => if t.rate < x.rate then some t else some x) m = some t → m = some t ∨ t ∈ l
  | [], m, t, h => .inl h
  | a :: l, m, t, h => by
    rw [List.foldl_cons] at h
    rcases lf_fold_mem l _ t h with h1 | h1
    · cases m with
      | none => simp only [Option.some.injEq] at h1; subst h1; exact .inr (by simp)
      | some x =>
        simp only at h1
        split at h1
        · simp only [Option.some.injEq] at h1; subst h1; exact .inr (by simp)
        · exact .inl h1
    · exact .inr (List.mem_cons_of_mem _ h1)
theorem lf_mem {l : List Told} {t : Told} (h : lf l = some t) : t ∈ l := by
  rcases lf_fold_mem l none t h with h1 | h1
  · cases h1
  · exact h1
end Go.Proofs.Ythnnhagccemnnaa
