/- What the rows hand over, of any shape: readers. -/
import Derived.Test.YtlodiibmofeikaaQAA
namespace Go.Proofs.Ytlodiibmofeikaa
open Go.ChangeShapes Go.WideShapes Go.ChangeAt Go.RowKit
set_option linter.unusedVariables false
set_option linter.unusedSimpArgs false

section
variable {H : Type} {enc : TypeId × Value → H} {P : Program} {w : World}

theorem bulkAll_append (l r : List (DataW H)) : Rows.uptoBulkAll (l ++ r) = Rows.uptoBulkAll l + Rows.uptoBulkAll r := by
  induction l with
  | nil => simp [Rows.uptoBulkAll]
  | cons x l ih => simp only [List.cons_append, Rows.uptoBulkAll, ih]; omega

/-- cells of type t read as an x, whose measure is no more than what is read -/
def Rd {α : Type} (enc : TypeId × Value → H) (P : Program) (w : World) (t : TypeId) (cells : α → List Value) (ok : α → Prop) (sz : α → Nat) : Prop :=
  ∀ fuel cs y, DataW.trod enc P w 0 (fun _ => true) true fuel t cs = some y → ∃ x, cs = cells x ∧ ok x ∧ sz x ≤ Rows.uptoBulk y.1

theorem Rd.int {t : TypeId} {k : IntKind} (ht : P.underlying t = some (.int k)) : Rd enc P w t (fun n : Int => [.int k n]) (fun n => (Lit.int k n).wf = true) (fun _ => 1) := by
  intro fuel cs y h
  obtain ⟨n, rfl, rfl, hn⟩ := DataW.trod_int ht h
  exact ⟨n, rfl, hn, by simp [Rows.uptoBulk]⟩
theorem Rd.bool {t : TypeId} (ht : P.underlying t = some .bool) : Rd enc P w t (fun b : Bool => [.bool b]) (fun _ => True) (fun _ => 1) := by
  intro fuel cs y h
  obtain ⟨b, rfl, rfl⟩ := DataW.trod_bool ht h
  exact ⟨b, rfl, trivial, by simp [Rows.uptoBulk]⟩
theorem Rd.string {t : TypeId} (ht : P.underlying t = some .string) : Rd enc P w t (fun s : ByteArray => [.string s]) (fun s => s.size ≤ maxLen) (fun s => s.size + 1) := by
  intro fuel cs y h
  obtain ⟨s, rfl, rfl, hs⟩ := DataW.trod_string ht h
  exact ⟨s, rfl, hs, by simp [Rows.uptoBulk]⟩
theorem Rd.map {α β : Type} {t : TypeId} {cells : α → List Value} {ok : α → Prop} {sz : α → Nat} {cells' : β → List Value} {ok' : β → Prop} {sz' : β → Nat} (h : Rd enc P w t cells ok sz) (f : α → β)
    (hc : ∀ x, cells x = cells' (f x)) (ho : ∀ x, ok x → ok' (f x)) (hs : ∀ x, ok x → sz' (f x) ≤ sz x) : Rd enc P w t cells' ok' sz' := by
  intro fuel cs y hy
  obtain ⟨x, h1, h2, h3⟩ := h fuel cs y hy
  exact ⟨f x, h1.trans (hc x), ho x h2, Nat.le_trans (hs x h2) h3⟩

theorem cells_read {a : Addr} {n : Nat} {cs : List Value} (h : w.cells? 0 a n = some cs) : cs.length = n ∧ ∀ j u, cs[j]? = some u → w.cell? (a.add j) = some u := by
  simp only [World.cells?] at h
  split at h
  · have hl := mapM_some_length h
    refine ⟨by simpa using hl, fun j u hu => ?_⟩
    have hj : j < n := by
      have := (List.getElem?_eq_some_iff.1 hu).1
      simp at hl
      omega
    have := mapM_some_get h j j (by simp [hj])
    rw [this, hu]
  · cases h

/-- elements read one by one read as a list -/
theorem elems_from {α : Type} {e : TypeId} {cells : α → List Value} {ok : α → Prop} {sz : α → Nat} (he : Rd enc P w e cells ok sz) {s : Nat} (hs : ∀ x, (cells x).length = s) (hc : P.cellsOf e = s) {n : Nat} {a : Addr} :
    ∀ (elems : List (DataW H × List MemPlace)) (k : Nat), (∀ i, i < elems.length → (w.cells? 0 (a.add ((k + i) * P.cellsOf e)) (P.cellsOf e)).bind (DataW.trod enc P w 0 (fun _ => true) true n e) = elems[i]?) →
      ∃ l : List α, l.length = elems.length ∧ (∀ x ∈ l, ok x) ∧ (l.map sz).sum ≤ Rows.uptoBulkAll (elems.map (·.1)) ∧ ∀ j u, (l.flatMap cells)[j]? = some u → w.cell? (a.add (k * s + j)) = some u := by
  intro elems
  induction elems with
  | nil => intro k _; exact ⟨[], rfl, by simp, by simp, by simp⟩
  | cons y el ih =>
    intro k h
    obtain ⟨l, h1, h2, h3, h4⟩ := ih (k + 1) (fun i hi => by
      have := h (i + 1) (by simp; omega)
      rw [show k + 1 + i = k + (i + 1) by omega]
      simpa using this)
    have hy := h 0 (by simp)
    simp at hy
    obtain ⟨cs, hcs, hty⟩ := Option.bind_eq_some_iff.1 hy
    obtain ⟨x, rfl, hx, hz⟩ := he _ _ _ hty
    obtain ⟨hlen, hcell⟩ := cells_read hcs
    refine ⟨x :: l, by simp [h1], ?_, ?_, ?_⟩
    · intro z hz
      rcases List.mem_cons.1 hz with rfl | hz
      · exact hx
      · exact h2 z hz
    · simp only [List.map_cons, List.sum_cons, Rows.uptoBulkAll]
      omega
    · intro j u hu
      rw [List.flatMap_cons] at hu
      have hadd : ∀ p q : Nat, (a.add p).add q = a.add (p + q) := by
        intro p q
        unfold Addr.add
        split <;> split <;> split <;> simp_all <;> omega
      by_cases hj : j < s
      · rw [List.getElem?_append_left (by rw [hs]; exact hj)] at hu
        have := hcell _ _ hu
        rwa [hc, hadd] at this
      · rw [List.getElem?_append_right (by rw [hs]; omega), hs] at hu
        have := h4 _ _ hu
        rwa [show (k + 1) * s + (j - s) = k * s + j by rw [Nat.add_mul]; omega] at this
theorem elems_read {α : Type} {e : TypeId} {cells : α → List Value} {ok : α → Prop} {sz : α → Nat} (he : Rd enc P w e cells ok sz) {s : Nat} (hs : ∀ x, (cells x).length = s) (hc : P.cellsOf e = s) {n : Nat} {a : Addr}
    (elems : List (DataW H × List MemPlace)) (len : Nat) (hl : elems.length = len) (h : ∀ i, i < len → (w.cells? 0 (a.add (i * P.cellsOf e)) (P.cellsOf e)).bind (DataW.trod enc P w 0 (fun _ => true) true n e) = elems[i]?) :
      ∃ l : List α, l.length = len ∧ (∀ x ∈ l, ok x) ∧ (l.map sz).sum ≤ Rows.uptoBulkAll (elems.map (·.1)) ∧ ∀ j u, (l.flatMap cells)[j]? = some u → w.cell? (a.add j) = some u := by
  subst hl
  obtain ⟨l, h1, h2, h3, h4⟩ := elems_from he hs hc elems 0 (fun i hi => by rw [Nat.zero_add]; exact h i hi)
  exact ⟨l, h1, h2, h3, fun j u hu => by simpa using h4 j u hu⟩

theorem add_none {a : Addr} {j : Nat} {u : Value} (h : w.cell? (a.add j) = some u) (h0 : j = 0 ∨ a.spot = none) : a.spot = none ∧ a.block < w.heap.size ∧ w.cell? ⟨a.block, a.off + j, none⟩ = some u := by
  have hlt := World.block_lt_of_cell? w _ h
  obtain ⟨b, o, sp⟩ := a
  have hsp : sp = none := by
    rcases h0 with rfl | h0
    · rw [show (⟨b, o, sp⟩ : Addr).add 0 = ⟨b, o, sp⟩ by simp [Addr.add]] at h
      cases sp with
      | none => rfl
      | some q =>
        exfalso
        unfold World.cell? at h
        split at h <;> simp_all
    · exact h0
  subst hsp
  have e : (⟨b, o, none⟩ : Addr).add j = ⟨b, o + j, none⟩ := by unfold Addr.add; split <;> simp_all
  rw [e] at h hlt
  exact ⟨rfl, hlt, h⟩

theorem Rd.slice {α : Type} {t e : TypeId} {cells : α → List Value} {ok : α → Prop} {sz : α → Nat} (he : Rd enc P w e cells ok sz) {s : Nat} (hs : ∀ x, (cells x).length = s) (hs0 : 0 < s) (hc : P.cellsOf e = s)
    (ht : P.underlying t = some (.slice e)) :
    Rd enc P w t (fun p : Value × List α => [p.1]) (fun p => Reads w s p.1 p.2.length (p.2.flatMap cells) ∧ ∀ x ∈ p.2, ok x) (fun p => (p.2.map sz).sum + 1) := by
  intro fuel cs y h
  rcases DataW.trod_slice ht h with ⟨rfl, rfl⟩ | ⟨a, len, cap, elems, rest, n, _, rfl, rfl, hb, hl, hm, hlen, hel, hsp, hns⟩
  · exact ⟨(.slice none 0 0, []), rfl, ⟨Reads.nil _ _, by simp⟩, by simp [Rows.uptoBulk]⟩
  · obtain ⟨l, h1, h2, h3, h4⟩ := elems_read he hs hc elems len hlen hel
    have hfl : (l.flatMap cells).length = l.length * s := by
      clear h1 h2 h3 h4
      induction l with
      | nil => simp
      | cons z l ih2 => simp only [List.flatMap_cons, List.length_append, hs, ih2, List.length_cons]; rw [Nat.add_mul]; omega
    refine ⟨(.slice (some a) len cap, l), rfl, ⟨?_, h2⟩, by simp [Rows.uptoBulk]; omega⟩
    subst h1
    have h0 : 0 < l.length → ∃ u, w.cell? (a.add 0) = some u := fun hp => by
      have hpos : 0 < (l.flatMap cells).length := by rw [hfl]; exact Nat.mul_pos hp hs0
      exact ⟨_, h4 0 _ (List.getElem?_eq_getElem hpos)⟩
    refine ⟨hfl, _, cap, rfl, hl, hm, fun hn => (by cases hn), fun a' ha hp => ?_, fun j u hu => ⟨a, rfl, ?_⟩⟩
    · cases ha
      obtain ⟨u, hu⟩ := h0 hp
      have := add_none hu (.inl rfl)
      exact ⟨this.1, this.2.1⟩
    · have hp : 0 < l.length := by
        rcases Nat.eq_zero_or_pos l.length with e | e
        · have : l = [] := List.eq_nil_of_length_eq_zero e
          subst this; simp at hu
        · exact e
      obtain ⟨u0, hu0⟩ := h0 hp
      exact (add_none (h4 j u hu) (.inr (add_none hu0 (.inl rfl)).1)).2.2

/-- fields from one offset on -/
def RdF {α : Type} (enc : TypeId × Value → H) (P : Program) (w : World) (fs : List Field) (off total : Nat) (cells : α → List Value) (ok : α → Prop) (sz : α → Nat) : Prop :=
  ∀ n (cs : List Value) (xs : List (DataW H × List MemPlace)), xs.length = fs.length → off + total ≤ cs.length →
    (∀ (i : Nat) (f : Field), fs[i]? = some f → DataW.trod enc P w 0 (fun _ => true) true n f.type ((cs.drop f.offset).take (P.cellsOf f.type)) = xs[i]?) →
    ∃ x, (cs.drop off).take total = cells x ∧ ok x ∧ sz x ≤ Rows.uptoBulkAll (xs.map (·.1))
theorem RdF.nil {off : Nat} : RdF enc P w [] off 0 (fun _ : Unit => []) (fun _ => True) (fun _ => 0) := fun _ _ _ _ _ _ => ⟨(), by simp, trivial, Nat.zero_le _⟩
theorem RdF.cons {α β : Type} {f : Field} {fs : List Field} {off n1 n2 : Nat} {c1 : α → List Value} {o1 : α → Prop} {s1 : α → Nat} {c2 : β → List Value} {o2 : β → Prop} {s2 : β → Nat}
    (hf : Rd enc P w f.type c1 o1 s1) (hoff : f.offset = off) (hn : P.cellsOf f.type = n1) (hfs : RdF enc P w fs (off + n1) n2 c2 o2 s2) :
    RdF enc P w (f :: fs) off (n1 + n2) (fun p : α × β => c1 p.1 ++ c2 p.2) (fun p => o1 p.1 ∧ o2 p.2) (fun p => s1 p.1 + s2 p.2) := by
  intro n cs xs hx hl h
  cases xs with
  | nil => simp at hx
  | cons y ys =>
    have h0 := h 0 f rfl
    rw [hoff, hn] at h0
    obtain ⟨x1, e1, k1, z1⟩ := hf _ _ _ (by simpa using h0)
    obtain ⟨x2, e2, k2, z2⟩ := hfs n cs ys (by simpa using hx) (by omega) (fun i g hg => by simpa using h (i + 1) g (by simpa using hg))
    refine ⟨(x1, x2), ?_, ⟨k1, k2⟩, ?_⟩
    · rw [List.take_add, e1, List.drop_drop, e2]
    · simp only [List.map_cons, Rows.uptoBulkAll]; omega
theorem Rd.struct {α : Type} {t : TypeId} {fs : Array Field} {total : Nat} {cells : α → List Value} {ok : α → Prop} {sz : α → Nat} (ht : P.underlying t = some (.struct fs)) (hc : P.cellsOf t = total)
    (h : RdF enc P w fs.toList 0 total cells ok sz) : Rd enc P w t cells ok (fun x => sz x + 1) := by
  intro fuel cs y hy
  obtain ⟨xs, n, rfl, rfl, hl, hx, hf⟩ := DataW.trod_struct ht hy
  obtain ⟨x, e, k, z⟩ := h n cs xs (by simpa using hx) (by omega) (fun i f hi => hf i f (by simpa using hi))
  refine ⟨x, ?_, k, by simp only [Rows.uptoBulk]; omega⟩
  rw [← e, List.drop_zero, List.take_of_length_le (by omega)]

/-- out of a row's hypothesis -/
theorem Rd.open {α : Type} {t : TypeId} {cells : α → List Value} {ok : α → Prop} {sz : α → Nat} (h : Rd enc P w t cells ok sz) {v : Value} {d : DataW H} {ps : List MemPlace}
    (hv : DataW.Trod enc P w 0 (fun _ => true) true t v d ps) : ∃ x, v.cells.toList = cells x ∧ ok x ∧ sz x ≤ Rows.uptoBulk d := by
  obtain ⟨fuel, hf⟩ := hv
  exact h _ _ _ hf
end
theorem le_sum {α : Type} (f : α → Nat) : ∀ (l : List α) (x : α), x ∈ l → f x ≤ (l.map f).sum
  | y :: l, x, h => by
    simp only [List.map_cons, List.sum_cons]
    rcases List.mem_cons.1 h with rfl | h
    · omega
    · have := le_sum f l x h; omega
theorem len_sum {α : Type} (f : α → Nat) (h : ∀ x, 1 ≤ f x) : ∀ (l : List α), l.length ≤ (l.map f).sum
  | [] => by simp
  | y :: l => by
    have := len_sum f h l
    have := h y
    simp only [List.map_cons, List.sum_cons, List.length_cons]; omega
theorem agg_of {cs : Array Value} {l : List Value} (h : (Value.agg cs).cells.toList = l) : cs = l.toArray := by
  subst h; simp [Value.cells]
theorem flatMap_one {α : Type} (f : α → Value) (l : List α) : (l.flatMap fun n => [f n]) = l.map f := by
  induction l with
  | nil => rfl
  | cons x l ih => simp only [List.flatMap_cons, List.map_cons, ih]; rfl
theorem sum_one {α : Type} (l : List α) : (l.map fun _ => 1).sum = l.length := by
  induction l with
  | nil => rfl
  | cons x l ih => simp only [List.map_cons, List.sum_cons, List.length_cons, ih]; omega
end Go.Proofs.Ytlodiibmofeikaa
