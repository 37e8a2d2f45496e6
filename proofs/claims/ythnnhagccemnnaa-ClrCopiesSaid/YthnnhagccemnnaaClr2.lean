/- clr: the plain law of a book. -/
import Derived.Test.YthnnhagccemnnaaToldIns3
namespace Go.Proofs.Ythnnhagccemnnaa
open Go.RowKit
set_option linter.unusedVariables false
set_option linter.unusedSimpArgs false

def lk (l : List Told) (r : Int) : Option Told := l.find? (fun o => o.frm == r)
theorem rising_pair {l : List Told} : Rising l ↔ l.Pairwise (fun a b => a.frm < b.frm) := by
  rw [List.pairwise_iff_getElem]
  constructor
  · intro h i j hi hj hij
    exact h i j l[i] l[j] hij (List.getElem?_eq_getElem hi) (List.getElem?_eq_getElem hj)
  · intro h q r o o' hqr ho ho'
    obtain ⟨hq, e1⟩ := List.getElem?_eq_some_iff.1 ho
    obtain ⟨hr, e2⟩ := List.getElem?_eq_some_iff.1 ho'
    have := h q r hq hr hqr
    rwa [e1, e2] at this
theorem rising_uniq {l : List Told} (h : Rising l) {a b : Told} (ha : a ∈ l) (hb : b ∈ l) (e : a.frm = b.frm) : a = b := by
  obtain ⟨i, hi, rfl⟩ := List.getElem_of_mem ha
  obtain ⟨j, hj, rfl⟩ := List.getElem_of_mem hb
  rcases Nat.lt_trichotomy i j with h1 | h1 | h1
  · have := h i j _ _ h1 (List.getElem?_eq_getElem hi) (List.getElem?_eq_getElem hj); omega
  · subst h1; rfl
  · have := h j i _ _ h1 (List.getElem?_eq_getElem hj) (List.getElem?_eq_getElem hi); omega
theorem lk_none {l : List Told} {r : Int} : lk l r = none ↔ ∀ o ∈ l, o.frm ≠ r := by
  unfold lk
  rw [List.find?_eq_none]
  simp
theorem lk_some {l : List Told} (h : Rising l) {r : Int} {o : Told} : lk l r = some o ↔ o ∈ l ∧ o.frm = r := by
  constructor
  · intro e
    have h1 := List.find?_some e
    exact ⟨List.mem_of_find?_eq_some e, by simpa using h1⟩
  · rintro ⟨h1, h2⟩
    cases e : lk l r with
    | none => exact absurd h2 (lk_none.1 e o h1)
    | some o' =>
      have h3 := List.find?_some e
      have h4 := List.mem_of_find?_eq_some e
      rw [rising_uniq h h1 h4 (by rw [h2]; exact (by simpa using h3 : o'.frm = r).symm)]
theorem hit_lk {l : List Told} (h : Rising l) {r : Int} {p : Nat} (hp : Parts l r p) : hit l r p = (lk l r).isSome := by
  unfold hit
  cases e : l[p]? with
  | some o =>
    simp only
    by_cases hr : o.frm = r
    · rw [decide_eq_true hr, (lk_some h).2 ⟨List.mem_of_getElem? e, hr⟩]; rfl
    · rw [decide_eq_false hr, lk_none.2]; · rfl
      intro o' ho' hf
      obtain ⟨q, hq, rfl⟩ := List.getElem_of_mem ho'
      have e2 := List.getElem?_eq_getElem hq
      rcases Nat.lt_trichotomy q p with h1 | h1 | h1
      · have := hp.lo q _ h1 e2; omega
      · subst h1; rw [e2] at e; cases e; exact hr hf
      · have h2 := h p q _ _ h1 e e2
        have h3 := hp.hi p _ (Nat.le_refl _) e
        omega
  | none =>
    simp only
    rw [lk_none.2]; · rfl
    intro o' ho' hf
    obtain ⟨q, hq, rfl⟩ := List.getElem_of_mem ho'
    have e2 := List.getElem?_eq_getElem hq
    have := List.getElem?_eq_none_iff.1 e
    have := hp.lo q _ (by omega) e2
    omega
theorem hit_some {l : List Told} (h : Rising l) {r : Int} {p : Nat} (hp : Parts l r p) {o : Told} (ho : lk l r = some o) : l[p]? = some o := by
  have h1 := hit_lk h hp
  rw [ho] at h1
  unfold hit at h1
  cases e : l[p]? with
  | some o' =>
    rw [e] at h1
    simp at h1
    obtain ⟨h2, h3⟩ := (lk_some h).1 ho
    rw [rising_uniq h h2 (List.mem_of_getElem? e) (by omega)]
  | none => rw [e] at h1; simp at h1

theorem put_rising {l : List Told} (h : Rising l) {t : Told} {p : Nat} (hp : Parts l t.frm p) (hn : lk l t.frm = none) : Rising (put1 l p t) := by
  rw [rising_pair] at h ⊢
  have h1 := List.take_append_drop p l
  rw [← h1, List.pairwise_append] at h
  unfold put1
  rw [List.pairwise_append, List.pairwise_cons]
  have hlo : ∀ a ∈ l.take p, a.frm < t.frm := by
    intro a ha
    obtain ⟨q, hq, rfl⟩ := List.getElem_of_mem ha
    rw [List.length_take] at hq
    rw [List.getElem_take]
    exact hp.lo q _ (by omega) (List.getElem?_eq_getElem (by omega))
  have hhi : ∀ b ∈ l.drop p, t.frm < b.frm := by
    intro b hb
    have hne := lk_none.1 hn b (List.mem_of_mem_drop hb)
    obtain ⟨q, hq, rfl⟩ := List.getElem_of_mem hb
    rw [List.length_drop] at hq
    rw [List.getElem_drop] at hne ⊢
    have := hp.hi (p + q) _ (by omega) (List.getElem?_eq_getElem (by omega))
    omega
  refine ⟨h.1, ⟨hhi, h.2.1⟩, fun a ha b hb => ?_⟩
  rcases List.mem_cons.1 hb with rfl | hb
  · exact hlo a ha
  · exact h.2.2 a ha b hb
theorem put_mem {l : List Told} {t x : Told} {p : Nat} : x ∈ put1 l p t ↔ x = t ∨ x ∈ l := by
  unfold put1
  rw [List.mem_append, List.mem_cons]
  constructor
  · rintro (h | h | h)
    · exact .inr (List.mem_of_mem_take h)
    · exact .inl h
    · exact .inr (List.mem_of_mem_drop h)
  · rintro (h | h)
    · exact .inr (.inl h)
    · rw [← List.take_append_drop p l, List.mem_append] at h
      rcases h with h | h
      · exact .inl h
      · exact .inr (.inr h)
theorem put_len {l : List Told} {t : Told} {p : Nat} (hp : p ≤ l.length) : (put1 l p t).length = l.length + 1 := by unfold put1; simp; omega
theorem set_rising {l : List Told} (h : Rising l) {t o : Told} {p : Nat} (ho : l[p]? = some o) (he : o.frm = t.frm) : Rising (l.set p t) := by
  intro q r a b hqr ha hb
  have hl : p < l.length := (List.getElem?_eq_some_iff.1 ho).1
  have f : ∀ (q : Nat) (a : Told), (l.set p t)[q]? = some a → ∃ a', l[q]? = some a' ∧ a'.frm = a.frm := by
    intro q a ha
    by_cases e : q = p
    · subst e
      rw [List.getElem?_set_self hl] at ha
      cases ha
      exact ⟨o, ho, he⟩
    · rw [List.getElem?_set_ne (fun h => e h.symm)] at ha
      exact ⟨a, ha, rfl⟩
  obtain ⟨a', h1, h2⟩ := f q a ha
  obtain ⟨b', h3, h4⟩ := f r b hb
  have := h q r a' b' hqr h1 h3
  omega
theorem set_lk {l : List Told} (h : Rising l) {t o : Told} {p : Nat} (ho : l[p]? = some o) (he : o.frm = t.frm) (r : Int) : lk (l.set p t) r = if r = t.frm then some t else lk l r := by
  have hl : p < l.length := (List.getElem?_eq_some_iff.1 ho).1
  have hR := set_rising h ho he
  split
  · rename_i e
    exact (lk_some hR).2 ⟨List.mem_of_getElem? (List.getElem?_set_self hl), e.symm⟩
  · rename_i e
    cases e2 : lk l r with
    | some x =>
      obtain ⟨h1, h2⟩ := (lk_some h).1 e2
      refine (lk_some hR).2 ⟨?_, h2⟩
      obtain ⟨q, hq, rfl⟩ := List.getElem_of_mem h1
      have hqp : q ≠ p := by
        intro e3; subst e3
        rw [List.getElem?_eq_getElem hq] at ho
        cases ho
        omega
      exact List.mem_of_getElem? (i := q) (by rw [List.getElem?_set_ne (fun h => hqp h.symm)]; exact List.getElem?_eq_getElem hq)
    | none =>
      refine lk_none.2 fun x hx => ?_
      rcases List.mem_or_eq_of_mem_set hx with h1 | h1
      · exact lk_none.1 e2 x h1
      · subst h1; omega
theorem put_lk {l : List Told} (h : Rising l) {t : Told} {p : Nat} (hp : Parts l t.frm p) (hn : lk l t.frm = none) (r : Int) : lk (put1 l p t) r = if r = t.frm then some t else lk l r := by
  have hR := put_rising h hp hn
  split
  · rename_i e
    exact (lk_some hR).2 ⟨put_mem.2 (.inl rfl), e.symm⟩
  · rename_i e
    cases e2 : lk l r with
    | some x =>
      obtain ⟨h1, h2⟩ := (lk_some h).1 e2
      exact (lk_some hR).2 ⟨put_mem.2 (.inr h1), h2⟩
    | none =>
      refine lk_none.2 fun x hx => ?_
      rcases put_mem.1 hx with h1 | h1
      · subst h1; omega
      · exact lk_none.1 e2 x h1
theorem erase_rising {l : List Told} (h : Rising l) (p : Nat) : Rising (erase1 l p) := by
  rw [rising_pair] at h ⊢
  unfold erase1
  refine h.sublist ?_
  conv => rhs; rw [← List.take_append_drop p l]
  refine (List.Sublist.refl _).append ?_
  rw [← List.drop_drop]
  exact List.drop_sublist _ _
theorem erase_lk {l : List Told} (h : Rising l) {o : Told} {p : Nat} (ho : l[p]? = some o) (r : Int) : lk (erase1 l p) r = if r = o.frm then none else lk l r := by
  have hR := erase_rising h p
  have hl : p < l.length := (List.getElem?_eq_some_iff.1 ho).1
  have hs : l = l.take p ++ o :: l.drop (p + 1) := by
    have h1 := List.take_append_drop p l
    rw [List.drop_eq_getElem_cons hl] at h1
    rw [List.getElem?_eq_getElem hl] at ho
    cases ho
    exact h1.symm
  have hm : ∀ x, x ∈ erase1 l p → x ∈ l := by
    intro x hx
    unfold erase1 at hx
    rcases List.mem_append.1 hx with h1 | h1
    · exact List.mem_of_mem_take h1
    · exact List.mem_of_mem_drop h1
  split
  · rename_i e
    refine lk_none.2 fun x hx hf => ?_
    have hxo := rising_uniq h (hm x hx) (List.mem_of_getElem? ho) (by omega)
    subst hxo
    rw [rising_pair, hs, List.pairwise_append, List.pairwise_cons] at h
    unfold erase1 at hx
    rcases List.mem_append.1 hx with h1 | h1
    · have := h.2.2 x h1 x (by simp); omega
    · have := h.2.1.1 x h1; omega
  · rename_i e
    cases e2 : lk l r with
    | some x =>
      obtain ⟨h1, h2⟩ := (lk_some h).1 e2
      refine (lk_some hR).2 ⟨?_, h2⟩
      rw [hs] at h1
      unfold erase1
      rcases List.mem_append.1 h1 with h3 | h3
      · exact List.mem_append.2 (.inl h3)
      · rcases List.mem_cons.1 h3 with h3 | h3
        · subst h3; omega
        · exact List.mem_append.2 (.inr h3)
    | none => exact lk_none.2 fun x hx => lk_none.1 e2 x (hm x hx)
end Go.Proofs.Ythnnhagccemnnaa
