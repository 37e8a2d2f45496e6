/- simnet: what many messages to one receiver leave. Plain. -/
import Derived.Test.YtlodiibmofeikaaNetSends
namespace Go.Proofs.Ytlodiibmofeikaa
open Go.RowKit
set_option linter.unusedVariables false
set_option linter.unusedSimpArgs false

theorem strOfNums_inj {a b : List Int} (ha : BtsI a) (hb : BtsI b) (h : strOfNums a = strOfNums b) : a = b := by
  have h1 := congrArg (fun s : ByteArray => s.data.toList) h
  simp only [strOfNums_data] at h1
  induction a generalizing b with
  | nil =>
    cases b with
    | nil => rfl
    | cons y b => simp at h1
  | cons x a ih =>
    cases b with
    | nil => simp at h1
    | cons y b =>
      simp only [List.map_cons, List.cons.injEq] at h1
      have hx := ha x (by simp)
      have hy := hb y (by simp)
      have e : x.toNat = y.toNat := by
        have h2 := congrArg UInt8.toNat h1.1
        simp only [UInt8.toNat_ofNat'] at h2
        omega
      rw [show x = y by omega, ih (fun z hz => ha z (by simp [hz])) (fun z hz => hb z (by simp [hz])) (by
        apply ByteArray.ext
        apply Array.ext'
        exact h1.2) h1.2]
theorem SendL.one {room due : Int} {bs : List Int} {F : List FD} {L0 L : List (List Msg)} {u0 u : Nat} {s0 s : StN} {r : Nat} (h : SendL room due bs F L0 u0 s0 [r] L u s) : ∃ l l', L0[r]? = some l ∧ GiveL room (fateOf F u0) due bs l s0 l' s ∧ L = L0.set r l' ∧ u = usedN F u0 := by
  generalize hm : [r] = ms at h
  cases h with
  | nil => cases hm
  | @snoc ms L u s r' l l' s' h1 h2 h3 =>
    have hms : ms = [] := by
      cases ms with
      | nil => rfl
      | cons a t => simp at hm
    subst hms
    simp at hm
    subst hm
    generalize hn : ([] : List Nat) = ns at h1
    cases h1 with
    | nil => exact ⟨l, l', h2, h3, rfl, rfl⟩
    | @snoc ms L u s r' l l' s' h1 h2 h3 => simp at hn
/-- how many messages a fate makes -/
def manyF (f : FD) : Nat := if f.kind = 1 then 0 else if f.kind = 2 then 2 else 1
def isT (bs : List Int) (m : Msg) : Bool := decide (m.bs = bs)
/-- the list and the counts, when k were sent -/
structure FS (bs : List Int) (k : Nat) (l : List Msg) (s : StN) : Prop where
  sent : s.sent = k
  drop : s.dropped = 0
  len : (l.length : Int) = s.sent - s.lost + s.doubled
  many : l.length ≤ 2 * k
  same : (l.countP (isT bs) : Int) = l.length - (if 0 < bs.length then s.turned else 0)
  due : ∀ m ∈ l, m.due ≤ 69
  byt : ∀ m ∈ l, BtsI m.bs
  bnd : StB (3 * k) s
theorem put1_memR {l : List Msg} {p : Nat} {m x : Msg} (h : x ∈ put1 l p m) : x ∈ l ∨ x = m := (put1_mem.1 h).symm
theorem put1_cnt (q : Msg → Bool) (l : List Msg) (p : Nat) (m : Msg) : (put1 l p m).countP q = l.countP q + (if q m then 1 else 0) := by
  unfold put1
  have h := congrArg (List.countP q) (List.take_append_drop p l)
  rw [List.countP_append] at h
  rw [List.countP_append, List.countP_cons]
  omega
theorem put1_len (l : List Msg) (p : Nat) (m : Msg) : (put1 l p m).length = l.length + 1 := by
  have h := congrArg List.length (List.take_append_drop p l)
  rw [List.length_append] at h
  unfold put1
  rw [List.length_append, List.length_cons]
  omega
/-- a copy is laid: there is room -/
theorem LayL.room {due : Int} {bs : List Int} {l l' : List Msg} {s s' : StN} (h : LayL 256 due bs l s l' s') (hl : l.length < 256) (hd : 0 ≤ due ∧ due ≤ 69) (hb : bs.length ≤ 300) : s' = s ∧ ∃ p m, l' = put1 l p m ∧ m.due = due ∧ m.bs = bs := by
  have he : putE l 256 due bs.length = 0 := by
    unfold putE
    rw [if_neg (by omega), if_neg (by omega)]
  rcases h with ⟨h, -⟩ | ⟨-, h1, m, h2, h3⟩
  · exact absurd he h
  · exact ⟨h1, _, m, h2, h3⟩
theorem isT_self {bs : List Int} {m : Msg} (h : m.bs = bs) : isT bs m = true := decide_eq_true h
theorem FS.next {bs : List Int} {k : Nat} {f : FD} {l l' : List Msg} {s s' : StN} (h : FS bs k l s) (hk : k < 100) (hb : bs.length ≤ 300) (hbt : BtsI bs) (hg : GiveL 256 f 5 bs l s l' s') : FS bs (k + 1) l' s' ∧ l'.length = l.length + manyF f := by
  obtain ⟨a, b, c, d, e, g, y, bn⟩ := h
  have bn' := (hg.stb bn).mono (m := 3 * ((k + 1 : Nat) : Int)) (by omega)
  rcases hg with ⟨hf, rfl, rfl⟩ | ⟨hf, l1, s1, h1, h2⟩ | ⟨hf, h⟩ | ⟨hf, h⟩ | ⟨hf, h⟩
  · refine ⟨⟨?_, b, ?_, by omega, e, g, y, bn'⟩, by unfold manyF; rw [if_pos hf]; omega⟩
    · unfold StN.lose StN.send; simp only; omega
    · unfold StN.lose StN.send; simp only; omega
  · obtain ⟨rfl, p1, m1, rfl, d1, b1⟩ := h1.room (by omega) (by omega) hb
    obtain ⟨rfl, p2, m2, rfl, d2, b2⟩ := h2.room (by rw [put1_len]; omega) (by omega) hb
    refine ⟨⟨?_, b, ?_, by rw [put1_len, put1_len]; omega, ?_, fun x hx => ?_, fun x hx => ?_, bn'⟩, by unfold manyF; rw [if_neg (by omega), if_pos hf, put1_len, put1_len]⟩
    · unfold StN.dbl StN.send; simp only; omega
    · rw [put1_len, put1_len]; unfold StN.dbl StN.send; simp only; omega
    · rw [put1_len, put1_len, put1_cnt, put1_cnt, isT_self b1, isT_self b2]; unfold StN.dbl StN.send; simp only; split <;> simp_all <;> omega
    · rcases put1_memR hx with hx | rfl
      · rcases put1_memR hx with hx | rfl
        · exact g x hx
        · omega
      · omega
    · rcases put1_memR hx with hx | rfl
      · rcases put1_memR hx with hx | rfl
        · exact y x hx
        · rw [b1]; exact hbt
      · rw [b2]; exact hbt
  · have hcl := clamp_range f.n
    obtain ⟨rfl, p1, m1, rfl, d1, b1⟩ := h.room (by omega) (by omega) hb
    refine ⟨⟨?_, b, ?_, by rw [put1_len]; omega, ?_, fun x hx => ?_, fun x hx => ?_, bn'⟩, by unfold manyF; rw [if_neg (by omega), if_neg (by omega), put1_len]⟩
    · unfold StN.lat StN.send; simp only; omega
    · rw [put1_len]; unfold StN.lat StN.send; simp only; omega
    · rw [put1_len, put1_cnt, isT_self b1]; unfold StN.lat StN.send; simp only; split <;> simp_all <;> omega
    · rcases put1_memR hx with hx | rfl
      · exact g x hx
      · omega
    · rcases put1_memR hx with hx | rfl
      · exact y x hx
      · rw [b1]; exact hbt
  · obtain ⟨rfl, p1, m1, rfl, d1, b1⟩ := h.room (by omega) (by omega) (by rw [turnI_len]; exact hb)
    refine ⟨⟨?_, b, ?_, by rw [put1_len]; omega, ?_, fun x hx => ?_, fun x hx => ?_, bn'⟩, by unfold manyF; rw [if_neg (by omega), if_neg (by omega), put1_len]⟩
    · unfold StN.trn StN.send; simp only; omega
    · rw [put1_len]; unfold StN.trn StN.send; simp only; omega
    · rw [put1_len, put1_cnt]
      unfold StN.trn StN.send
      simp only
      by_cases hz : 0 < bs.length
      · have hT : isT bs m1 = false := decide_eq_false (by rw [b1]; exact turnI_ne hbt _ (List.length_pos_iff.1 hz))
        rw [if_pos hz, hT]
        rw [if_pos hz] at e
        simp
        omega
      · have h0 : bs = [] := List.eq_nil_of_length_eq_zero (by omega)
        subst h0
        have hT : isT [] m1 = true := decide_eq_true (by rw [b1]; rfl)
        rw [if_neg hz, hT]
        rw [if_neg hz] at e
        simp
        omega
    · rcases put1_memR hx with hx | rfl
      · exact g x hx
      · omega
    · rcases put1_memR hx with hx | rfl
      · exact y x hx
      · rw [b1]; exact turnI_bts hbt _
  · obtain ⟨rfl, p1, m1, rfl, d1, b1⟩ := h.room (by omega) (by omega) hb
    refine ⟨⟨?_, b, ?_, by rw [put1_len]; omega, ?_, fun x hx => ?_, fun x hx => ?_, bn'⟩, by unfold manyF; rw [if_neg (by omega), if_neg (by omega), put1_len]⟩
    · unfold StN.send; simp only; omega
    · rw [put1_len]; unfold StN.send; simp only; omega
    · rw [put1_len, put1_cnt, isT_self b1]; unfold StN.send; simp only; split <;> simp_all <;> omega
    · rcases put1_memR hx with hx | rfl
      · exact g x hx
      · omega
    · rcases put1_memR hx with hx | rfl
      · exact y x hx
      · rw [b1]; exact hbt
theorem takeWhile_all {α : Type} {q : α → Bool} : ∀ {l : List α}, (∀ x ∈ l, q x = true) → l.takeWhile q = l
  | [], _ => rfl
  | a :: l, h => by rw [List.takeWhile_cons_of_pos (h a (by simp)), takeWhile_all (fun x hx => h x (by simp [hx]))]
theorem FS.all {bs : List Int} {k : Nat} {l : List Msg} {s : StN} (h : FS bs k l s) : dueN l 100 = l.length := by
  unfold dueN
  rw [takeWhile_all]
  intro m hm
  have := h.due m hm
  simp
  omega
theorem FS.zero (bs : List Int) : FS bs 0 [] stN0 := ⟨rfl, rfl, rfl, by simp, by simp [stN0], by simp, by simp, ⟨by decide, by decide, by decide, by decide, by decide, by decide⟩⟩
end Go.Proofs.Ytlodiibmofeikaa
