/- gaps: the plain law of what is missed, dropped, asked, heard. -/
import Derived.Test.YtkgngmmlfoiajaaGaps2
namespace Go.Proofs.Ytkgngmmlfoiajaa
open Go.RowKit
set_option linter.unusedVariables false
set_option linter.unusedSimpArgs false

def has (l : List Hole) (r : Int) : Bool := (lk l r).isSome
theorem has_false {l : List Hole} {r : Int} : has l r = false ↔ ∀ o ∈ l, o.block ≠ r := by
  unfold has
  rw [← lk_none]
  cases lk l r <;> simp
def ins (t : Hole) : List Hole → List Hole
  | [] => [t]
  | h :: r => if t.block < h.block then t :: h :: r else h :: ins t r
theorem put_ins {t : Hole} : ∀ {l : List Hole} {p : Nat}, Parts l t.block p → (∀ o ∈ l, o.block ≠ t.block) → put1 l p t = ins t l
  | [], p, hp, _ => by
    have : p = 0 := by have := hp.le; simpa using this
    subst this
    rfl
  | h :: r, 0, hp, hn => by
    have h1 := hp.hi 0 h (Nat.le_refl _) rfl
    have h2 := hn h (by simp)
    unfold put1 ins
    rw [if_pos (by omega)]
    rfl
  | h :: r, p + 1, hp, hn => by
    have h1 := hp.lo 0 h (by omega) rfl
    have ih := put_ins (t := t) (l := r) (p := p) ⟨by have := hp.le; simpa using this, fun q o hq ho => hp.lo (q + 1) o (by omega) (by simpa using ho), fun q o hq ho => hp.hi (q + 1) o (by omega) (by simpa using ho)⟩ (fun o ho => hn o (by simp [ho]))
    unfold ins
    rw [if_neg (by omega), ← ih]
    rfl
def drp (l : List Hole) (r : Int) : List Hole := l.filter fun o => decide (o.block ≠ r)
theorem erase_drp : ∀ {l : List Hole} {p : Nat} {o : Hole}, Rising l → l[p]? = some o → erase1 l p = drp l o.block
  | [], p, o, _, ho => by simp at ho
  | h :: t, 0, o, hr, ho => by
    have : h = o := by simpa using ho
    subst this
    rw [rising_pair, List.pairwise_cons] at hr
    unfold drp erase1
    rw [List.filter_cons, if_neg (by simp), List.filter_eq_self.2]
    · simp
    · intro a ha
      have := hr.1 a ha
      simp; omega
  | h :: t, p + 1, o, hr, ho => by
    have ho' : t[p]? = some o := by simpa using ho
    rw [rising_pair, List.pairwise_cons] at hr
    have h1 := hr.1 o (List.mem_of_getElem? ho')
    have ih := erase_drp (rising_pair.2 hr.2) ho'
    unfold drp at ih ⊢
    rw [List.filter_cons, if_pos (by simp; omega), ← ih]
    simp [erase1]
theorem drp_rising {l : List Hole} (h : Rising l) (r : Int) : Rising (drp l r) := by
  rw [rising_pair] at h ⊢
  exact h.sublist List.filter_sublist
theorem drp_none {l : List Hole} {r : Int} (h : has l r = false) : drp l r = l := by
  unfold drp
  rw [List.filter_eq_self]
  intro a ha
  have := has_false.1 h a ha
  simpa using this
theorem mem_drp {l : List Hole} {r : Int} {o : Hole} : o ∈ drp l r ↔ o ∈ l ∧ o.block ≠ r := by unfold drp; simp
theorem mem_ins {t x : Hole} : ∀ {l : List Hole}, x ∈ ins t l ↔ x = t ∨ x ∈ l
  | [] => by simp [ins]
  | h :: r => by
    unfold ins
    split
    · simp
    · rw [List.mem_cons, mem_ins, List.mem_cons]
      constructor
      · rintro (h | h | h)
        · exact .inr (.inl h)
        · exact .inl h
        · exact .inr (.inr h)
      · rintro (h | h | h)
        · exact .inr (.inl h)
        · exact .inl h
        · exact .inr (.inr h)
theorem len_ins {t : Hole} : ∀ {l : List Hole}, (ins t l).length = l.length + 1
  | [] => rfl
  | h :: r => by
    unfold ins
    split
    · rfl
    · rw [List.length_cons, len_ins, List.length_cons]
theorem ins_rising {t : Hole} {l : List Hole} (h : Rising l) (hn : has l t.block = false) : Rising (ins t l) := by
  rw [rising_pair] at h ⊢
  have hn := has_false.1 hn
  induction l with
  | nil => simp [ins]
  | cons a r ih =>
    rw [List.pairwise_cons] at h
    unfold ins
    split
    · rename_i hlt
      refine List.pairwise_cons.2 ⟨fun x hx => ?_, List.pairwise_cons.2 h⟩
      rcases List.mem_cons.1 hx with rfl | hx
      · exact hlt
      · have := h.1 x hx; omega
    · rename_i hge
      refine List.pairwise_cons.2 ⟨fun x hx => ?_, ih h.2 (by unfold has; rw [Option.isSome_eq_false_iff, Option.isNone_iff_eq_none]; exact lk_none.2 fun o ho => hn o (by simp [ho])) (fun o ho => hn o (by simp [ho]))⟩
      rcases mem_ins.1 hx with rfl | hx
      · have := hn a (by simp); omega
      · exact h.1 x hx
def gt1 (t : Hole) (l : List Hole) : Bool := l.any fun o => decide (t.block < o.block)
theorem ins_none {t : Hole} : ∀ {l : List Hole}, gt1 t l = false → ins t l = l ++ [t]
  | [], _ => rfl
  | h :: r, e => by
    unfold gt1 at e
    rw [List.any_cons, Bool.or_eq_false_iff, decide_eq_false_iff_not] at e
    unfold ins
    rw [if_neg e.1, ins_none e.2]
    rfl
theorem ins_snoc {t a : Hole} : ∀ {l : List Hole}, gt1 t l = true → ins t (l ++ [a]) = ins t l ++ [a]
  | [], e => by simp [gt1] at e
  | h :: r, e => by
    unfold gt1 at e
    rw [List.any_cons, Bool.or_eq_true, decide_eq_true_eq] at e
    show ins t (h :: (r ++ [a])) = _
    unfold ins
    split
    · rfl
    · rename_i hh
      rw [ins_snoc (e.resolve_left hh)]
      rfl
theorem ins_first {t a : Hole} : ∀ {l : List Hole}, gt1 t l = false → t.block < a.block → ins t (l ++ [a]) = l ++ [t, a]
  | [], _, h => by
    show (if t.block < a.block then _ else _) = _
    rw [if_pos h]; rfl
  | h :: r, e, hl => by
    unfold gt1 at e
    rw [List.any_cons, Bool.or_eq_false_iff, decide_eq_false_iff_not] at e
    show ins t (h :: (r ++ [a])) = _
    unfold ins
    rw [if_neg e.1, ins_first e.2 hl]
    rfl
theorem gt1_snoc {t a : Hole} {l : List Hole} : gt1 t (l ++ [a]) = (gt1 t l || decide (t.block < a.block)) := by simp [gt1]

/-- Miss: k blocks from a on -/
def missN (l : List Hole) (a due f : Int) : Nat → List Hole × Nat
  | 0 => (l, 0)
  | k + 1 => let r := missN l a due f k; if has r.1 (a + k) then r else (ins ⟨a + k, due, f, 0⟩ r.1, r.2 + 1)

/-- what holds of each hole -/
structure Fine (K : Nat) (o : Hole) : Prop where
  b0 : 0 ≤ o.block
  b1 : o.block < 16384
  d0 : 0 ≤ o.due
  d1 : o.due ≤ 2199023255552
  w0 : 1 ≤ o.wait
  w1 : o.wait ≤ 1048576
  t0 : 0 ≤ o.tries
  t1 : o.tries ≤ K
theorem Fine.more {K : Nat} {o : Hole} (h : Fine K o) : Fine (K + 1) o := ⟨h.b0, h.b1, h.d0, h.d1, h.w0, h.w1, h.t0, by have := h.t1; omega⟩
/-- a right list: rising, fine -/
structure Rl (K : Nat) (l : List Hole) : Prop where
  ris : Rising l
  fine : ∀ o ∈ l, Fine K o
theorem rl_nil (K : Nat) : Rl K [] := ⟨fun q r o o' _ h => by simp at h, fun o h => by simp at h⟩
theorem Rl.more {K : Nat} {l : List Hole} (h : Rl K l) : Rl (K + 1) l := ⟨h.ris, fun o ho => (h.fine o ho).more⟩
theorem Rl.drp {K : Nat} {l : List Hole} (h : Rl K l) (r : Int) : Rl K (drp l r) := ⟨drp_rising h.ris r, fun o ho => h.fine o (mem_drp.1 ho).1⟩
theorem drp_len {l : List Hole} {r : Int} : (drp l r).length ≤ l.length := List.length_filter_le _ _
theorem missN_rl {K : Nat} {l : List Hole} {a due f : Int} (h : Rl K l) (ha : 0 ≤ a) (h1 : 0 ≤ due) (h2 : due ≤ 1099511627776) (h3 : 1 ≤ f) (h4 : f ≤ 1048576) : ∀ {k : Nat}, a + k ≤ 16384 → Rl K (missN l a due f k).1 ∧ (missN l a due f k).1.length ≤ l.length + k ∧ (missN l a due f k).2 ≤ k
  | 0, _ => ⟨h, Nat.le_refl _, Nat.le_refl _⟩
  | k + 1, hk => by
    obtain ⟨i1, i2, i3⟩ := missN_rl (k := k) h ha h1 h2 h3 h4 (by omega)
    unfold missN
    simp only
    split
    · exact ⟨i1, by omega, by omega⟩
    · rename_i hh
      refine ⟨⟨ins_rising i1.ris (by simpa using hh), fun o ho => ?_⟩, by simp only [len_ins]; omega, by simp only; omega⟩
      rcases mem_ins.1 ho with rfl | ho
      · exact ⟨by simp only; omega, by simp only; omega, h1, by simp only; omega, h3, h4, Int.le_refl _, by simp only; omega⟩
      · exact i1.fine o ho

/-- the last stretch ends where b begins -/
def touch (out : List (Int × Int)) (b : Int) : Bool := match out[out.length - 1]? with | some x => decide (x.2 = b) | none => false
def bump (out : List (Int × Int)) : List (Int × Int) := match out[out.length - 1]? with | some x => out.set (out.length - 1) (x.1, x.2 + 1) | none => out
def ask1 (now lg : Int) (o : Hole) : Hole := ⟨o.block, now + o.wait, min (2 * o.wait) lg, o.tries + 1⟩
def askGo (now m lg : Int) : List Hole → List (Int × Int) → List Hole × List (Int × Int)
  | [], out => ([], out)
  | h :: t, out =>
    if now < h.due then (h :: (askGo now m lg t out).1, (askGo now m lg t out).2)
    else if touch out h.block then (ask1 now lg h :: (askGo now m lg t (bump out)).1, (askGo now m lg t (bump out)).2)
    else if m ≤ out.length then (h :: t, out)
    else (ask1 now lg h :: (askGo now m lg t (out ++ [(h.block, h.block + 1)])).1, (askGo now m lg t (out ++ [(h.block, h.block + 1)])).2)
def inT (now : Int) : Bool := decide (0 ≤ now) && decide (now ≤ 1099511627776)
def askL (now most lg : Int) (l : List Hole) : List Hole × List (Int × Int) := if inT now then askGo now (min most 16) lg l [] else (l, [])
theorem askGo_len (now m lg : Int) : ∀ (l : List Hole) (out : List (Int × Int)), (askGo now m lg l out).1.length = l.length
  | [], out => rfl
  | h :: t, out => by
    unfold askGo
    split
    · simp [askGo_len now m lg t]
    · split
      · simp [askGo_len now m lg t]
      · split
        · rfl
        · simp [askGo_len now m lg t]
theorem bump_len (out : List (Int × Int)) : (bump out).length = out.length := by unfold bump; split <;> simp
theorem askGo_out (now m lg : Int) (B : Nat) (hm : m ≤ B) : ∀ (l : List Hole) (out : List (Int × Int)), out.length ≤ B → (askGo now m lg l out).2.length ≤ B
  | [], out, h => h
  | a :: t, out, h => by
    unfold askGo
    split
    · exact askGo_out now m lg B hm t out h
    · split
      · exact askGo_out now m lg B hm t _ (by rw [bump_len]; exact h)
      · split
        · exact h
        · exact askGo_out now m lg B hm t _ (by simp; omega)
/-- each hole is as it was, or was due and asked for -/
theorem askGo_mem (now m lg : Int) : ∀ (l : List Hole) (out : List (Int × Int)) (q : Nat) (o : Hole), l[q]? = some o → ∃ o', (askGo now m lg l out).1[q]? = some o' ∧ (o' = o ∨ (o' = ask1 now lg o ∧ o.due ≤ now))
  | [], out, q, o, h => by simp at h
  | a :: t, out, q, o, h => by
    have f : ∀ out' a', (a' = a ∨ (a' = ask1 now lg a ∧ a.due ≤ now)) → ∃ o', (a' :: (askGo now m lg t out').1)[q]? = some o' ∧ (o' = o ∨ (o' = ask1 now lg o ∧ o.due ≤ now)) := by
      intro out' a' ha
      cases q with
      | zero => simp at h; subst h; exact ⟨a', rfl, ha⟩
      | succ q => simpa using askGo_mem now m lg t out' q o (by simpa using h)
    unfold askGo
    split
    · exact f _ _ (.inl rfl)
    · split
      · exact f _ _ (.inr ⟨rfl, by omega⟩)
      · split
        · exact ⟨o, h, .inl rfl⟩
        · exact f _ _ (.inr ⟨rfl, by omega⟩)
theorem askL_mem {now most lg : Int} {l : List Hole} {q : Nat} {o : Hole} (h : l[q]? = some o) : ∃ o', (askL now most lg l).1[q]? = some o' ∧ (o' = o ∨ (o' = ask1 now lg o ∧ o.due ≤ now ∧ inT now = true)) := by
  unfold askL
  split
  · rename_i hi
    obtain ⟨o', h1, h2⟩ := askGo_mem now (min most 16) lg l [] q o h
    exact ⟨o', h1, h2.imp id fun h => ⟨h.1, h.2, hi⟩⟩
  · exact ⟨o, h, .inl rfl⟩
theorem askL_len {now most lg : Int} {l : List Hole} : (askL now most lg l).1.length = l.length := by
  unfold askL; split
  · exact askGo_len ..
  · rfl
theorem inT_iff {n : Int} : inT n = true ↔ 0 ≤ n ∧ n ≤ 1099511627776 := by unfold inT; simp
/-- another list with the same blocks -/
theorem rising_same {l l' : List Hole} (h : Rising l) (hl : l'.length = l.length) (hs : ∀ (q : Nat) (o : Hole), l[q]? = some o → ∃ o' : Hole, l'[q]? = some o' ∧ o'.block = o.block) : Rising l' := by
  intro q r a b hqr ha hb
  have hq := (List.getElem?_eq_some_iff.1 ha).1
  have hr := (List.getElem?_eq_some_iff.1 hb).1
  obtain ⟨a', h1, h2⟩ := hs q _ (List.getElem?_eq_getElem (by omega))
  obtain ⟨b', h3, h4⟩ := hs r _ (List.getElem?_eq_getElem (by omega))
  rw [ha] at h1; rw [hb] at h3
  cases h1; cases h3
  have := h q r _ _ hqr (List.getElem?_eq_getElem (by omega)) (List.getElem?_eq_getElem (by omega))
  omega
theorem askL_rl {K : Nat} {now most lg : Int} {l : List Hole} (h : Rl K l) (h1 : 1 ≤ lg) (h2 : lg ≤ 1048576) : Rl (K + 1) (askL now most lg l).1 := by
  refine ⟨rising_same h.ris askL_len fun q o ho => ?_, fun o ho => ?_⟩
  · obtain ⟨o', e, h3⟩ := askL_mem (now := now) (most := most) (lg := lg) ho
    exact ⟨o', e, h3.elim (fun h => by rw [h]) (fun h => by rw [h.1]; rfl)⟩
  · obtain ⟨q, hq, rfl⟩ := List.getElem_of_mem ho
    have hq' : q < l.length := by rw [← askL_len (now := now) (most := most) (lg := lg)]; exact hq
    obtain ⟨o', e, h3⟩ := askL_mem (now := now) (most := most) (lg := lg) (List.getElem?_eq_getElem hq')
    rw [List.getElem?_eq_getElem hq] at e
    cases e
    have hf := h.fine _ (List.getElem_mem hq')
    generalize l[q] = o at *
    generalize (askL now most lg l).1[q] = o'' at *
    rcases h3 with rfl | ⟨rfl, h4, h5⟩
    · exact hf.more
    · obtain ⟨h6, h7⟩ := inT_iff.1 h5
      obtain ⟨b0, b1, d0, d1, w0, w1, t0, t1⟩ := hf
      exact ⟨b0, b1, by simp only [ask1]; omega, by simp only [ask1]; omega, by simp only [ask1]; omega, by simp only [ask1]; omega, by simp only [ask1]; omega, by simp only [ask1]; omega⟩
/-- Hear -/
def inAny (l : List (Int × Int)) (b : Int) : Bool := l.any fun x => decide (x.1 ≤ b) && decide (b < x.2)
def hears (l : List (Int × Int)) (now : Int) (o : Hole) : Bool := inAny l o.block && inT now && decide (o.due < now + o.wait)
def heard (l : List (Int × Int)) (now : Int) (o : Hole) : Hole := if hears l now o then ⟨o.block, now + o.wait, o.wait, o.tries⟩ else o
theorem heard_rl {K : Nat} {ps : List (Int × Int)} {now : Int} {l : List Hole} (h : Rl K l) : Rl K (l.map (heard ps now)) := by
  refine ⟨rising_same h.ris (by simp) fun q o ho => ⟨heard ps now o, by simp [ho], ?_⟩, fun o ho => ?_⟩
  · unfold heard; split <;> rfl
  · obtain ⟨o', h1, rfl⟩ := List.mem_map.1 ho
    have hf := h.fine _ h1
    unfold heard
    split
    · rename_i hh
      unfold hears at hh
      rw [Bool.and_eq_true, Bool.and_eq_true] at hh
      obtain ⟨h6, h7⟩ := inT_iff.1 hh.1.2
      obtain ⟨b0, b1, d0, d1, w0, w1, t0, t1⟩ := hf
      exact ⟨b0, b1, by simp only; omega, by simp only; omega, w0, w1, t0, t1⟩
    · exact hf
end Go.Proofs.Ytkgngmmlfoiajaa
