/- simnet: what many messages to one receiver leave. Plain. -/
import Derived.Test.YtlodiibmofeikaaQDD
import Derived.Test.YtlodiibmofeikaaQBB
import Derived.Test.YtlodiibmofeikaaQAA
import Derived.BigQuiet
namespace Go.Proofs.Ytlodiibmofeikaa
section
open Go.RowKit
set_option linter.unusedVariables false
set_option linter.unusedSimpArgs false

theorem strOfNums_inj {a b : List Int} (ha : BtsI a) (hb : BtsI b) (h : strOfNums a = strOfNums b) : a = b := by
  have h1 := congrArg (fun s : ByteArray => s.data.toList) h
  simp only [strOfNums_data] at h1
  induction a generalizing b with
  | nil =>
    cases b with
    | nil => rfl
    | cons y b => simp at h1
  | cons x a ih =>
    cases b with
    | nil => simp at h1
    | cons y b =>
      simp only [List.map_cons, List.cons.injEq] at h1
      have hx := ha x (by simp)
      have hy := hb y (by simp)
      have e : x.toNat = y.toNat := by
        have h2 := congrArg UInt8.toNat h1.1
        simp only [UInt8.toNat_ofNat'] at h2
        omega
      rw [show x = y by omega, ih (fun z hz => ha z (by simp [hz])) (fun z hz => hb z (by simp [hz])) (by
        apply ByteArray.ext
        apply Array.ext'
        exact h1.2) h1.2]
theorem SendL.one {room due : Int} {bs : List Int} {F : List FD} {L0 L : List (List Msg)} {u0 u : Nat} {s0 s : StN} {r : Nat} (h : SendL room due bs F L0 u0 s0 [r] L u s) : ∃ l l', L0[r]? = some l ∧ GiveL room (fateOf F u0) due bs l s0 l' s ∧ L = L0.set r l' ∧ u = usedN F u0 := by
  generalize hm : [r] = ms at h
  cases h with
  | nil => cases hm
  | @snoc ms L u s r' l l' s' h1 h2 h3 =>
    have hms : ms = [] := by
      cases ms with
      | nil => rfl
      | cons a t => simp at hm
    subst hms
    simp at hm
    subst hm
    generalize hn : ([] : List Nat) = ns at h1
    cases h1 with
    | nil => exact ⟨l, l', h2, h3, rfl, rfl⟩
    | @snoc ms L u s r' l l' s' h1 h2 h3 => simp at hn
/-- how many messages a fate makes -/
def manyF (f : FD) : Nat := if f.kind = 1 then 0 else if f.kind = 2 then 2 else 1
def isT (bs : List Int) (m : Msg) : Bool := decide (m.bs = bs)
/-- the list and the counts, when k were sent -/
structure FS (bs : List Int) (k : Nat) (l : List Msg) (s : StN) : Prop where
  sent : s.sent = k
  drop : s.dropped = 0
  len : (l.length : Int) = s.sent - s.lost + s.doubled
  many : l.length ≤ 2 * k
  same : (l.countP (isT bs) : Int) = l.length - (if 0 < bs.length then s.turned else 0)
  due : ∀ m ∈ l, m.due ≤ 69
  byt : ∀ m ∈ l, BtsI m.bs
  bnd : StB (3 * k) s
theorem put1_memR {l : List Msg} {p : Nat} {m x : Msg} (h : x ∈ put1 l p m) : x ∈ l ∨ x = m := (put1_mem.1 h).symm
theorem put1_cnt (q : Msg → Bool) (l : List Msg) (p : Nat) (m : Msg) : (put1 l p m).countP q = l.countP q + (if q m then 1 else 0) := by
  unfold put1
  have h := congrArg (List.countP q) (List.take_append_drop p l)
  rw [List.countP_append] at h
  rw [List.countP_append, List.countP_cons]
  omega
theorem put1_len (l : List Msg) (p : Nat) (m : Msg) : (put1 l p m).length = l.length + 1 := by
  have h := congrArg List.length (List.take_append_drop p l)
  rw [List.length_append] at h
  unfold put1
  rw [List.length_append, List.length_cons]
  omega
/-- a copy is laid: there is room -/
theorem LayL.room {due : Int} {bs : List Int} {l l' : List Msg} {s s' : StN} (h : LayL 256 due bs l s l' s') (hl : l.length < 256) (hd : 0 ≤ due ∧ due ≤ 69) (hb : bs.length ≤ 300) : s' = s ∧ ∃ p m, l' = put1 l p m ∧ m.due = due ∧ m.bs = bs := by
  have he : putE l 256 due bs.length = 0 := by
    unfold putE
    rw [if_neg (by omega), if_neg (by omega)]
  rcases h with ⟨h, -⟩ | ⟨-, h1, m, h2, h3⟩
  · exact absurd he h
  · exact ⟨h1, _, m, h2, h3⟩
theorem isT_self {bs : List Int} {m : Msg} (h : m.bs = bs) : isT bs m = true := decide_eq_true h
theorem FS.next {bs : List Int} {k : Nat} {f : FD} {l l' : List Msg} {s s' : StN} (h : FS bs k l s) (hk : k < 100) (hb : bs.length ≤ 300) (hbt : BtsI bs) (hg : GiveL 256 f 5 bs l s l' s') : FS bs (k + 1) l' s' ∧ l'.length = l.length + manyF f := by
  obtain ⟨a, b, c, d, e, g, y, bn⟩ := h
  have bn' := (hg.stb bn).mono (m := 3 * ((k + 1 : Nat) : Int)) (by omega)
  rcases hg with ⟨hf, rfl, rfl⟩ | ⟨hf, l1, s1, h1, h2⟩ | ⟨hf, h⟩ | ⟨hf, h⟩ | ⟨hf, h⟩
  · refine ⟨⟨?_, b, ?_, by omega, e, g, y, bn'⟩, by unfold manyF; rw [if_pos hf]; omega⟩
    · unfold StN.lose StN.send; simp only; omega
    · unfold StN.lose StN.send; simp only; omega
  · obtain ⟨rfl, p1, m1, rfl, d1, b1⟩ := h1.room (by omega) (by omega) hb
    obtain ⟨rfl, p2, m2, rfl, d2, b2⟩ := h2.room (by rw [put1_len]; omega) (by omega) hb
    refine ⟨⟨?_, b, ?_, by rw [put1_len, put1_len]; omega, ?_, fun x hx => ?_, fun x hx => ?_, bn'⟩, by unfold manyF; rw [if_neg (by omega), if_pos hf, put1_len, put1_len]⟩
    · unfold StN.dbl StN.send; simp only; omega
    · rw [put1_len, put1_len]; unfold StN.dbl StN.send; simp only; omega
    · rw [put1_len, put1_len, put1_cnt, put1_cnt, isT_self b1, isT_self b2]; unfold StN.dbl StN.send; simp only; split <;> simp_all <;> omega
    · rcases put1_memR hx with hx | rfl
      · rcases put1_memR hx with hx | rfl
        · exact g x hx
        · omega
      · omega
    · rcases put1_memR hx with hx | rfl
      · rcases put1_memR hx with hx | rfl
        · exact y x hx
        · rw [b1]; exact hbt
      · rw [b2]; exact hbt
  · have hcl := clamp_range f.n
    obtain ⟨rfl, p1, m1, rfl, d1, b1⟩ := h.room (by omega) (by omega) hb
    refine ⟨⟨?_, b, ?_, by rw [put1_len]; omega, ?_, fun x hx => ?_, fun x hx => ?_, bn'⟩, by unfold manyF; rw [if_neg (by omega), if_neg (by omega), put1_len]⟩
    · unfold StN.lat StN.send; simp only; omega
    · rw [put1_len]; unfold StN.lat StN.send; simp only; omega
    · rw [put1_len, put1_cnt, isT_self b1]; unfold StN.lat StN.send; simp only; split <;> simp_all <;> omega
    · rcases put1_memR hx with hx | rfl
      · exact g x hx
      · omega
    · rcases put1_memR hx with hx | rfl
      · exact y x hx
      · rw [b1]; exact hbt
  · obtain ⟨rfl, p1, m1, rfl, d1, b1⟩ := h.room (by omega) (by omega) (by rw [turnI_len]; exact hb)
    refine ⟨⟨?_, b, ?_, by rw [put1_len]; omega, ?_, fun x hx => ?_, fun x hx => ?_, bn'⟩, by unfold manyF; rw [if_neg (by omega), if_neg (by omega), put1_len]⟩
    · unfold StN.trn StN.send; simp only; omega
    · rw [put1_len]; unfold StN.trn StN.send; simp only; omega
    · rw [put1_len, put1_cnt]
      unfold StN.trn StN.send
      simp only
      by_cases hz : 0 < bs.length
      · have hT : isT bs m1 = false := decide_eq_false (by rw [b1]; exact turnI_ne hbt _ (List.length_pos_iff.1 hz))
        rw [if_pos hz, hT]
        rw [if_pos hz] at e
        simp
        omega
      · have h0 : bs = [] := List.eq_nil_of_length_eq_zero (by omega)
        subst h0
        have hT : isT [] m1 = true := decide_eq_true (by rw [b1]; rfl)
        rw [if_neg hz, hT]
        rw [if_neg hz] at e
        simp
        omega
    · rcases put1_memR hx with hx | rfl
      · exact g x hx
      · omega
    · rcases put1_memR hx with hx | rfl
      · exact y x hx
      · rw [b1]; exact turnI_bts hbt _
  · obtain ⟨rfl, p1, m1, rfl, d1, b1⟩ := h.room (by omega) (by omega) hb
    refine ⟨⟨?_, b, ?_, by rw [put1_len]; omega, ?_, fun x hx => ?_, fun x hx => ?_, bn'⟩, by unfold manyF; rw [if_neg (by omega), if_neg (by omega), put1_len]⟩
    · unfold StN.send; simp only; omega
    · rw [put1_len]; unfold StN.send; simp only; omega
    · rw [put1_len, put1_cnt, isT_self b1]; unfold StN.send; simp only; split <;> simp_all <;> omega
    · rcases put1_memR hx with hx | rfl
      · exact g x hx
      · omega
    · rcases put1_memR hx with hx | rfl
      · exact y x hx
      · rw [b1]; exact hbt
theorem takeWhile_all {α : Type} {q : α → Bool} : ∀ {l : List α}, (∀ x ∈ l, q x = true) → l.takeWhile q = l
  | [], _ => rfl
  | a :: l, h => by rw [List.takeWhile_cons_of_pos (h a (by simp)), takeWhile_all (fun x hx => h x (by simp [hx]))]
theorem FS.all {bs : List Int} {k : Nat} {l : List Msg} {s : StN} (h : FS bs k l s) : dueN l 100 = l.length := by
  unfold dueN
  rw [takeWhile_all]
  intro m hm
  have := h.due m hm
  simp
  omega
theorem FS.zero (bs : List Int) : FS bs 0 [] stN0 := ⟨rfl, rfl, rfl, by simp, by simp [stN0], by simp, by simp, ⟨by decide, by decide, by decide, by decide, by decide, by decide⟩⟩
end
section
open Go.RowKit
set_option linter.unusedVariables false
set_option linter.unusedSimpArgs false

structure RM where
  due : Int
  txt : ByteArray
def rmCells (o : RM) : List Value := [.int .i64 o.due, .string o.txt]
theorem rmCells_len (o : RM) : (rmCells o).length = 2 := rfl
def toR (m : Msg) : RM := ⟨m.due, strOfNums m.bs⟩
def insR (P : List RM) (m : RM) : List RM := P.takeWhile (fun x => decide (x.due ≤ m.due)) ++ m :: P.dropWhile (fun x => decide (x.due ≤ m.due))
def sorted (X : List RM) : List RM := X.foldl insR []
theorem sorted_snoc (X : List RM) (m : RM) : sorted (X ++ [m]) = insR (sorted X) m := by unfold sorted; rw [List.foldl_append]; rfl
theorem insR_len (P : List RM) (m : RM) : (insR P m).length = P.length + 1 := by
  unfold insR
  have h := congrArg List.length (List.takeWhile_append_dropWhile (p := fun x : RM => decide (x.due ≤ m.due)) (l := P))
  simp only [List.length_append, List.length_cons] at h ⊢
  omega
theorem fold_len : ∀ (X P : List RM), (X.foldl insR P).length = P.length + X.length
  | [], P => by simp
  | m :: X, P => by rw [List.foldl_cons, fold_len X, insR_len, List.length_cons]; omega
theorem sorted_len (X : List RM) : (sorted X).length = X.length := by unfold sorted; rw [fold_len]; simp
theorem insR_cons_lt {y m : RM} {P : List RM} (h : m.due < y.due) : insR (y :: P) m = m :: y :: P := by
  unfold insR
  rw [List.takeWhile_cons_of_neg (by simp; omega), List.dropWhile_cons_of_neg (by simp; omega)]
  rfl
theorem insR_cons_ge {y m : RM} {P : List RM} (h : y.due ≤ m.due) : insR (y :: P) m = y :: insR P m := by
  unfold insR
  rw [List.takeWhile_cons_of_pos (by simpa using h), List.dropWhile_cons_of_pos (by simpa using h)]
  rfl
def lessAt (X : List RM) (i : Nat) (m : RM) : Bool := match X[i]? with | some y => decide (m.due < y.due) | none => false
/-- where the first one is, of the first k -/
def fi (X : List RM) : Nat → Int
  | 0 => -1
  | k + 1 => match X[k]? with
    | some m => if fi X k < 0 ∨ lessAt X (fi X k).toNat m = true then (k : Int) else fi X k
    | none => fi X k
theorem take_erase_snoc {X : List RM} {k i : Nat} {m : RM} (hm : X[k]? = some m) (hi : i < k) : (X.take (k + 1)).eraseIdx i = (X.take k).eraseIdx i ++ [m] := by
  rw [List.take_add_one, hm, Option.toList_some, List.eraseIdx_append_of_lt_length]
  rw [List.length_take]
  have := (List.getElem?_eq_some_iff.1 hm).1
  omega
/-- the first one stands at the list's head -/
theorem sorted_head (X : List RM) : ∀ k, k < X.length → ∃ i m, i ≤ k ∧ fi X (k + 1) = (i : Int) ∧ X[i]? = some m ∧ sorted (X.take (k + 1)) = m :: sorted ((X.take (k + 1)).eraseIdx i)
  | 0, h => by
    obtain ⟨m, hm⟩ : ∃ m, X[0]? = some m := ⟨_, List.getElem?_eq_getElem h⟩
    refine ⟨0, m, Nat.le_refl _, ?_, hm, ?_⟩
    · simp [fi, hm]
    · rw [List.take_add_one, hm]
      simp [sorted, insR]
  | k + 1, h => by
    obtain ⟨i, y, hi, hf, hy, hs⟩ := sorted_head X k (by omega)
    obtain ⟨m, hm⟩ : ∃ m, X[k + 1]? = some m := ⟨_, List.getElem?_eq_getElem h⟩
    have hst : sorted (X.take (k + 1 + 1)) = insR (sorted (X.take (k + 1))) m := by rw [List.take_add_one, hm, Option.toList_some, sorted_snoc]
    have hfe : fi X (k + 1 + 1) = if m.due < y.due then ((k + 1 : Nat) : Int) else (i : Int) := by
      show (match X[k + 1]? with | some m => _ | none => _) = _
      rw [hm]
      simp only
      have hla : lessAt X i m = decide (m.due < y.due) := by unfold lessAt; rw [hy]
      rw [hf, Int.toNat_natCast, hla]
      by_cases hlt : m.due < y.due
      · rw [if_pos (.inr (decide_eq_true hlt)), if_pos hlt]
      · rw [if_neg (by rintro (x | x); · omega
                       · exact hlt (of_decide_eq_true x)), if_neg hlt]
    by_cases hlt : m.due < y.due
    · refine ⟨k + 1, m, Nat.le_refl _, by rw [hfe, if_pos hlt], hm, ?_⟩
      rw [hst, hs, insR_cons_lt hlt, ← hs]
      congr 2
      have e : X.take (k + 1 + 1) = X.take (k + 1) ++ [m] := by rw [List.take_add_one (i := k + 1), hm]; rfl
      rw [e, List.eraseIdx_append_of_length_le (by rw [List.length_take]; omega), List.length_take, Nat.min_eq_left (by omega)]
      simp
    · refine ⟨i, y, by omega, by rw [hfe, if_neg hlt], hy, ?_⟩
      rw [hst, hs, insR_cons_ge (by omega), take_erase_snoc hm (by omega), sorted_snoc]
/-- of the whole list -/
theorem sorted_first {X : List RM} (h : X ≠ []) : ∃ i m, i < X.length ∧ fi X X.length = (i : Int) ∧ X[i]? = some m ∧ sorted X = m :: sorted (X.eraseIdx i) := by
  have h0 : 0 < X.length := List.length_pos_iff.2 h
  obtain ⟨i, m, hi, hf, hm, hs⟩ := sorted_head X (X.length - 1) (by omega)
  rw [show X.length - 1 + 1 = X.length by omega, List.take_length] at hs
  rw [show X.length - 1 + 1 = X.length by omega] at hf
  exact ⟨i, m, by omega, hf, hm, hs⟩
theorem fi_range (X : List RM) : ∀ k, k ≤ X.length → -1 ≤ fi X k ∧ fi X k < k
  | 0, _ => ⟨Int.le_refl _, by simp [fi]⟩
  | k + 1, h => by
    obtain ⟨i, m, hi, hf, -⟩ := sorted_head X k (by omega)
    rw [hf]
    omega
theorem take_len_eq {α : Type} (p : α → Bool) : ∀ l : List α, l.takeWhile p = l.take (l.takeWhile p).length ∧ l.dropWhile p = l.drop (l.takeWhile p).length
  | [] => ⟨rfl, rfl⟩
  | a :: l => by
    by_cases h : p a = true
    · rw [List.takeWhile_cons_of_pos h, List.dropWhile_cons_of_pos h]
      obtain ⟨h1, h2⟩ := take_len_eq p l
      exact ⟨by rw [List.length_cons, List.take_succ_cons, ← h1], by rw [List.length_cons, List.drop_succ_cons, ← h2]⟩
    · rw [List.takeWhile_cons_of_neg h, List.dropWhile_cons_of_neg h]
      exact ⟨rfl, rfl⟩
theorem dueN_map (l : List Msg) (now : Int) : ((l.map toR).takeWhile (fun x => decide (x.due ≤ now))).length = dueN l now := by
  unfold dueN
  rw [List.takeWhile_map, List.length_map]
  rfl
/-- what is put is put behind all that are due as early -/
theorem put_sorted {l : List Msg} {X : List RM} {m : Msg} (h : l.map toR = sorted X) : (put1 l (dueN l m.due) m).map toR = sorted (X ++ [toR m]) := by
  rw [sorted_snoc, ← h]
  unfold insR put1
  obtain ⟨h1, h2⟩ := take_len_eq (fun x : RM => decide (x.due ≤ m.due)) (l.map toR)
  have hd : ((l.map toR).takeWhile (fun x => decide (x.due ≤ (toR m).due))) = (l.map toR).take (dueN l m.due) := by rw [← dueN_map]; exact h1
  have hd2 : ((l.map toR).dropWhile (fun x => decide (x.due ≤ (toR m).due))) = (l.map toR).drop (dueN l m.due) := by rw [← dueN_map]; exact h2
  rw [hd, hd2, List.map_append, List.map_cons, List.map_take, List.map_drop]
theorem sorted_nil {X : List RM} (h : sorted X = []) : X = [] := List.eq_nil_of_length_eq_zero (by rw [← sorted_len, h]; rfl)
/-- the pipe's first is the reference's first -/
theorem head_first {m : Msg} {t : List Msg} {X : List RM} (h : (m :: t).map toR = sorted X) : ∃ i, i < X.length ∧ fi X X.length = (i : Int) ∧ X[i]? = some (toR m) ∧ t.map toR = sorted (X.eraseIdx i) := by
  have hx : X ≠ [] := by rintro rfl; cases h
  obtain ⟨i, y, hi, hf, hy, hs⟩ := sorted_first hx
  rw [hs, List.map_cons, List.cons.injEq] at h
  obtain ⟨rfl, h2⟩ := h
  exact ⟨i, hi, hf, hy, h2⟩
/-- how many are due -/
def cntD (X : List RM) (now : Int) : Nat := X.countP (fun x => decide (x.due ≤ now))
theorem insR_mem {P : List RM} {m x : RM} : x ∈ insR P m ↔ x = m ∨ x ∈ P := by
  unfold insR
  rw [List.mem_append, List.mem_cons]
  have h := List.takeWhile_append_dropWhile (p := fun x : RM => decide (x.due ≤ m.due)) (l := P)
  constructor
  · rintro (h1 | h1 | h1)
    · exact .inr (by rw [← h]; exact List.mem_append_left _ h1)
    · exact .inl h1
    · exact .inr (by rw [← h]; exact List.mem_append_right _ h1)
  · rintro (h1 | h1)
    · exact .inr (.inl h1)
    · rw [← h, List.mem_append] at h1
      exact h1.imp id .inr
theorem insR_cnt (P : List RM) (m : RM) (now : Int) : cntD (insR P m) now = cntD P now + (if m.due ≤ now then 1 else 0) := by
  unfold insR cntD
  have h := congrArg (List.countP (fun x : RM => decide (x.due ≤ now))) (List.takeWhile_append_dropWhile (p := fun x : RM => decide (x.due ≤ m.due)) (l := P))
  simp only [List.countP_append, List.countP_cons, decide_eq_true_eq] at h ⊢
  omega
theorem fold_cnt (now : Int) : ∀ (X P : List RM), cntD (X.foldl insR P) now = cntD P now + cntD X now
  | [], P => by simp [cntD]
  | m :: X, P => by
    rw [List.foldl_cons, fold_cnt now X, insR_cnt]
    unfold cntD
    simp only [List.countP_cons, decide_eq_true_eq]
    omega
theorem sorted_cnt (X : List RM) (now : Int) : cntD (sorted X) now = cntD X now := by unfold sorted; rw [fold_cnt]; simp [cntD]
theorem insR_pair : ∀ {P : List RM} {m : RM}, P.Pairwise (fun a b => a.due ≤ b.due) → (insR P m).Pairwise (fun a b => a.due ≤ b.due)
  | [], m, _ => by simp [insR]
  | y :: P, m, h => by
    rw [List.pairwise_cons] at h
    by_cases hlt : m.due < y.due
    · rw [insR_cons_lt hlt, List.pairwise_cons, List.pairwise_cons]
      refine ⟨fun z hz => ?_, h⟩
      rcases List.mem_cons.1 hz with rfl | hz
      · omega
      · have := h.1 z hz; omega
    · rw [insR_cons_ge (by omega), List.pairwise_cons]
      refine ⟨fun z hz => ?_, insR_pair h.2⟩
      rcases insR_mem.1 hz with rfl | hz
      · omega
      · exact h.1 z hz
theorem fold_pair : ∀ (X P : List RM), P.Pairwise (fun a b => a.due ≤ b.due) → (X.foldl insR P).Pairwise (fun a b => a.due ≤ b.due)
  | [], P, h => h
  | m :: X, P, h => by rw [List.foldl_cons]; exact fold_pair X _ (insR_pair h)
theorem pair_cnt (now : Int) : ∀ {P : List RM}, P.Pairwise (fun a b => a.due ≤ b.due) → cntD P now = (P.takeWhile (fun x => decide (x.due ≤ now))).length
  | [], _ => rfl
  | y :: P, h => by
    rw [List.pairwise_cons] at h
    by_cases hy : y.due ≤ now
    · rw [List.takeWhile_cons_of_pos (by simpa using hy), List.length_cons, ← pair_cnt now h.2]
      unfold cntD
      simp [List.countP_cons, hy]
    · rw [List.takeWhile_cons_of_neg (by simpa using hy)]
      unfold cntD
      rw [List.length_nil, List.countP_eq_zero]
      intro x hx
      rcases List.mem_cons.1 hx with rfl | hx
      · simpa using hy
      · have := h.1 x hx; simp; omega
/-- as many are due of the pipe's as of the reference's -/
theorem due_cnt {l : List Msg} {X : List RM} (h : l.map toR = sorted X) (now : Int) : dueN l now = cntD X now := by
  have h2 := pair_cnt now (P := sorted X) (fold_pair X [] List.Pairwise.nil)
  rw [← dueN_map, h, ← sorted_cnt, h2]
theorem cntD_take (X : List RM) (now : Int) {k : Nat} {m : RM} (hm : X[k]? = some m) : cntD (X.take (k + 1)) now = cntD (X.take k) now + (if m.due ≤ now then 1 else 0) := by
  unfold cntD
  rw [List.take_add_one, hm, Option.toList_some, List.countP_append]
  simp [List.countP_cons]
theorem cntD_le (X : List RM) (now : Int) : cntD X now ≤ X.length := List.countP_le_length
end
section
open Go.RowKit
set_option linter.unusedVariables false
set_option linter.unusedSimpArgs false
section
variable {P : Program}
theorem step_appR {ops : Array Oper} {o : Oper} {ac : Act} {K : Act → World → Prop} {Q : Exit → Act → World → Prop} {E : Prop} {w : World} (hgd : o.guard = none) (s x : Operand) (t : TypeId)
    (ho : o.op = .call { callee := .builtin .append, args := #[s, x], argTypes := #[t, t] })
    (base : Nat) (e : TypeId) (i : TypeInfo) (z : Value) (size bytes : Nat) (ht : P.underlying t = some (.slice e)) (hi : P.info? e = some i) (hz : i.zero = some z)
    (hsize : i.size = size) (hby : i.bytes = bytes) (hzs : z.cells.size = size)
    (v : Value) (n : Nat) (xs : List Value) (hs : ac.eval s = v) (hown : w.ownsRow base e size v n xs)
    (y : Value) (m : Nat) (news : List Value) (hx : ac.eval x = y) (hr : Reads w size y m news) (h1 : ∀ u ∈ news, u.oneCell' = true)
    (h63 : n + m ≤ maxLen) (hbytes : (n + m) * bytes ≤ 140737488355328) (hbase : base ≤ w.heap.size)
    (h : ∀ A c' w', w'.ownsRow base e size (.slice A (n + m) c') (n + m) (xs ++ news) → Keep (fun k => v.ownBlock = some k) w w' →
      (∀ g, (Value.slice A (n + m) c').ownBlock = some g → v.ownBlock = some g ∨ w.heap.size ≤ g) → (A = none → v = .slice none 0 0 ∧ m = 0) → K (ac.put o.dst (.slice A (n + m) c')) w') :
    if Region.wanted o (yielded ops ac.tmps) = true then Oper.wp P o ac w K Q else E := by
  have hw : Region.wanted o (yielded ops ac.tmps) = true := by simp [Region.wanted, hgd]
  rw [if_pos hw]
  obtain ⟨A, c, rfl, h2, h3, h4, -⟩ := hr.val
  cases A with
  | some a =>
    obtain ⟨A, c', w', hr2, h2, h3, h4, h5⟩ := run_app (P := P) w base t o.type e i z size bytes ht hi hz hsize hby hzs v n xs hown a m c news hr.len hr.news h1 h63 hbytes hbase
    unfold Oper.wp execOp
    simp only [ho, resolve, invoke, builtin, Sem.run_bind, Sem.run_pure, Result.andThen_ok, List.map_toArray, List.map_cons, List.map_nil, hs, hx, hr2]
    exact h A c' w' h2 h3 h4 h5
  | none =>
    obtain ⟨rfl, rfl⟩ := h4 rfl
    have hn : news = [] := List.eq_nil_of_length_eq_zero (by simpa using hr.len)
    subst hn
    have hr := run_app_nil (P := P) w base t o.type e i size ht hi v n xs hown
    unfold Oper.wp execOp
    simp only [ho, resolve, invoke, builtin, Sem.run_bind, Sem.run_pure, Result.andThen_ok, List.map_toArray, List.map_cons, List.map_nil, hs, hx, hr]
    obtain ⟨A', c', rfl⟩ := ownsRow_slice hown
    refine h A' c' w ?_ (Keep.refl _ _) (fun g hg => .inl hg) ?_
    · simpa using hown
    · rintro rfl
      rcases hown.2 with ⟨hv, _⟩ | ⟨g, cap, cur, hv, _⟩
      · exact ⟨hv, rfl⟩
      · cases hv
end
end
section
open Go.RowKit
set_option linter.unusedVariables false
set_option linter.unusedSimpArgs false

def RAt (w : World) (v : Value) (X : List RM) : Prop := Reads w 2 v X.length (X.flatMap rmCells)
theorem RAt.at {w : World} {v : Value} {x : List RM} (h : RAt w v x) {k : Nat} {a : RM} (hk : x[k]? = some a) : ∃ g p c, v = .slice (some ⟨g, p, none⟩) x.length c ∧ w.cell? ⟨g, p + k * 2, none⟩ = some (.int .i64 a.due) ∧ w.cell? ⟨g, p + k * 2 + 1, none⟩ = some (.string a.txt) := by
  obtain ⟨g, p, c, he, hc⟩ := Reads.elem h rmCells_len (by omega) hk
  exact ⟨g, p, c, he, hc 0 _ rfl, hc 1 _ rfl⟩
theorem rm_one (l : List RM) : ∀ u ∈ l.flatMap rmCells, u.oneCell' = true := by
  intro u hu
  obtain ⟨x, -, hx⟩ := List.mem_flatMap.1 hu
  simp only [rmCells, List.mem_cons, List.not_mem_nil, or_false] at hx
  rcases hx with rfl | rfl <;> rfl
set_option maxRecDepth 100000 in
set_option maxHeartbeats 1000000 in
theorem first_any (v : Value) (X : List RM) (w : World) (h : RAt w v X) (hn : X.length ≤ 1000000) :
    Calls Try.prog 51 #[v] w fun e w' => e = .returned (.int .i64 (fi X X.length)) ∧ Below w.heap.size w w' := by
  obtain ⟨A, c, rfl, -⟩ := h.val
  have H := Lib.hid h
  clear h
  go_enter Try.func51, Try.ntmps51
  go_wp2
  go_loopw [3, 4] (fun at' i wr => ∃ k : Nat, i = .int .i64 k ∧ k ≤ X.length ∧ ∃ z : Int, at' = .int .i64 z ∧ Hid (z = fi X k) ∧ Hid (Below w.heap.size w wr)) (fun _ i _ => X.length - (intOf i).toNat)
  case atStart => exact ⟨0, rfl, by omega, -1, rfl, rfl, Below.refl _ _⟩
  case round =>
    obtain ⟨k, rfl, hk, z, rfl, HZ, HB⟩ := hrel
    by_cases hlt : k < X.length
    · obtain ⟨o, ho⟩ : ∃ o, X[k]? = some o := ⟨_, List.getElem?_eq_getElem hlt⟩
      have HH := Lib.hid (Reads.below H.out HB.out)
      obtain ⟨g, p, c', he, o0, o1⟩ := RAt.at HH.out ho
      cases he
      have HO := Lib.hid ho
      have i1 : (0 : Int) ≤ (k : Int) := by omega
      have i2 : (k : Int) < (X.length : Int) := by omega
      have hfr := fi_range X k hk
      rw [← HZ.out] at hfr
      have hfs : fi X (k + 1) = if z < 0 ∨ lessAt X z.toNat o = true then (k : Int) else z := by
        show (match X[k]? with | some m => _ | none => _) = _
        rw [HO.out, HZ.out]
      have HFS := Lib.hid hfs
      clear ho hfs
      by_cases hz : z < 0
      · have d1 : decide (z < 0) = true := decide_eq_true hz
        have HZ2 : Hid ((k : Int) = fi X (k + 1)) := by show _ = _; rw [HFS.out, if_pos (.inl hz)]
        go_wp2_with fail
        go_quiet (fail)
        have HB2 := Lib.hid (below_drewN HB.out nq)
        go_wp2_with fail
        go_roundw
        case rel => exact ⟨k + 1, by go_num, by omega, (k : Int), rfl, HZ2, HB2⟩
        case measure => simp [intOf]; omega
      · obtain ⟨q, rfl⟩ : ∃ q : Nat, z = q := ⟨z.toNat, by omega⟩
        obtain ⟨y, hy⟩ : ∃ y, X[q]? = some y := ⟨_, List.getElem?_eq_getElem (by omega)⟩
        obtain ⟨g2, p2, c2, he, y0, y1⟩ := RAt.at HH.out hy
        cases he
        have HYY := Lib.hid hy
        have d1 : decide ((q : Int) < 0) = false := decide_eq_false hz
        have i3 : (0 : Int) ≤ (q : Int) := by omega
        have i4 : (q : Int) < (X.length : Int) := by omega
        clear hy
        by_cases hd : o.due < y.due
        · have d2 : decide (o.due < y.due) = true := decide_eq_true hd
          have HZ2 : Hid ((k : Int) = fi X (k + 1)) := by show _ = _; rw [HFS.out, if_pos (.inr (by unfold lessAt; rw [Int.toNat_natCast, HYY.out]; exact decide_eq_true hd))]
          go_wp2_with fail
          go_quiet (fail)
          have HB2 := Lib.hid (below_drewN HB.out nq)
          go_wp2_with fail
          go_roundw
          case rel => exact ⟨k + 1, by go_num, by omega, (k : Int), rfl, HZ2, HB2⟩
          case measure => simp [intOf]; omega
        · have d2 : decide (o.due < y.due) = false := decide_eq_false hd
          have HZ2 : Hid ((q : Int) = fi X (k + 1)) := by
            show _ = _
            rw [HFS.out, if_neg]
            rintro (x | x)
            · exact hz x
            · unfold lessAt at x; rw [Int.toNat_natCast, HYY.out] at x; exact hd (of_decide_eq_true x)
          go_wp2_with fail
          go_quiet (fail)
          have HB2 := Lib.hid (below_drewN HB.out nq)
          go_wp2_with fail
          go_roundw
          case rel => exact ⟨k + 1, by go_num, by omega, (q : Int), rfl, HZ2, HB2⟩
          case measure => simp [intOf]; omega
    · obtain rfl : k = X.length := by omega
      go_wp2
      go_ret
      exact ⟨by rw [HZ.out]; rfl, HB.out⟩
theorem info_rm : (Try.prog.info? 110).map (fun i => (i.zero, i.size, i.bytes)) = some (some (.agg #[.int .i64 0, .string ByteArray.empty]), 2, 24) := by kernel_rfl
/-- the first k but number i -/
def exc (X : List RM) (i k : Nat) : List RM := if k ≤ i then X.take k else (X.take k).eraseIdx i
theorem exc_next_eq {X : List RM} {i k : Nat} (h : k = i) (hk : k < X.length) : exc X i (k + 1) = exc X i k := by
  subst h
  unfold exc
  rw [if_neg (by omega), if_pos (Nat.le_refl _)]
  obtain ⟨m, hm⟩ : ∃ m, X[k]? = some m := ⟨_, List.getElem?_eq_getElem hk⟩
  rw [List.take_add_one, hm, Option.toList_some, List.eraseIdx_append_of_length_le (by rw [List.length_take]; omega), List.length_take, Nat.min_eq_left (by omega)]
  simp
theorem exc_next_ne {X : List RM} {i k : Nat} {m : RM} (h : k ≠ i) (hm : X[k]? = some m) : exc X i (k + 1) = exc X i k ++ [m] := by
  unfold exc
  by_cases hk : k + 1 ≤ i
  · rw [if_pos hk, if_pos (by omega), List.take_add_one, hm]; rfl
  · rw [if_neg hk, if_neg (by omega)]
    exact take_erase_snoc hm (by omega)
theorem exc_len {X : List RM} {i k : Nat} (hk : k ≤ X.length) : (exc X i k).length ≤ k := by
  unfold exc
  split
  · rw [List.length_take]; omega
  · have := List.length_eraseIdx_le (X.take k) i
    rw [List.length_take] at this; omega
set_option maxRecDepth 100000 in
set_option maxHeartbeats 1000000 in
theorem without_any (v : Value) (X : List RM) (i : Nat) (w : World) (h : RAt w v X) (hn : X.length ≤ 1000000) (hi : i < X.length) :
    Calls Try.prog 52 #[v, .int .i64 (i : Int)] w fun e w' => ∃ A c, e = .returned (.slice A (X.eraseIdx i).length c) ∧ w'.ownsRow w.heap.size 110 2 (.slice A (X.eraseIdx i).length c) (X.eraseIdx i).length ((X.eraseIdx i).flatMap rmCells) ∧ Below w.heap.size w w' := by
  obtain ⟨A, c, rfl, -⟩ := h.val
  obtain ⟨i0, hi0, hz0, hz1, hz2⟩ := info_parts info_rm
  have HI0 := Lib.hid hi0
  have HZ0 := Lib.hid hz0
  have HZ1 := Lib.hid hz1
  have HZ2 := Lib.hid hz2
  have H := Lib.hid h
  clear h hi0 hz0 hz1 hz2
  go_enter Try.func52, Try.ntmps52
  go_wp2
  go_loopw [5, 6] (fun o j wr => ∃ k : Nat, j = .int .i64 k ∧ k ≤ X.length ∧ ∃ (n : Nat) (B : Option Addr) (d : Nat), o = .slice B n d ∧ Hid (n = (exc X i k).length) ∧ Hid (wr.ownsRow w.heap.size 110 2 (.slice B n d) n ((exc X i k).flatMap rmCells)) ∧ Hid (Below w.heap.size w wr)) (fun _ j _ => X.length - (intOf j).toNat)
  case atStart => exact ⟨0, rfl, by omega, 0, none, 0, rfl, rfl, ⟨rfl, .inl ⟨rfl, rfl⟩⟩, Below.refl _ _⟩
  case round =>
    obtain ⟨k, rfl, hk, n, B, d, rfl, HN, HO, HB⟩ := hrel
    by_cases hlt : k < X.length
    · obtain ⟨o, ho⟩ : ∃ o, X[k]? = some o := ⟨_, List.getElem?_eq_getElem hlt⟩
      have HH := Lib.hid (Reads.below H.out HB.out)
      obtain ⟨g, p, c', he, o0, o1⟩ := RAt.at HH.out ho
      cases he
      have HOO := Lib.hid ho
      have i1 : (0 : Int) ≤ (k : Int) := by omega
      have i2 : (k : Int) < (X.length : Int) := by omega
      have hnl : n ≤ 1000000 := by have := HN.out; have := exc_len (i := i) hk; omega
      clear ho
      by_cases he : k = i
      · have hen := exc_next_eq he hlt
        have HN2 : Hid (n = (exc X i (k + 1)).length) := by show _ = _; rw [hen]; exact HN.out
        have HO2 : Hid (wr.ownsRow w.heap.size 110 2 (.slice B n d) n ((exc X i (k + 1)).flatMap rmCells)) := by show World.ownsRow ..; rw [hen]; exact HO.out
        have t1 : ((k : Int) != (i : Int)) = false := by simp; omega
        clear hen
        go_wp2_with fail
        go_roundw
        case rel => exact ⟨k + 1, by go_num, by omega, n, B, d, rfl, HN2, HO2, HB⟩
        case measure => simp [intOf]; omega
      · have t1 : ((k : Int) != (i : Int)) = true := by simp; omega
        have HEN := Lib.hid (exc_next_ne he HOO.out)
        have hs0 := HB.out.size
        have hb0 : Below wr.heap.size wr (wr.alloc (.cells #[.int .i64 o.due, .string o.txt] 110)) := (Below.refl _ wr).alloc (Nat.le_refl _) _
        go_wp2_with (at_builtin; refine wpList_app1 rfl _ _ 92 rfl w.heap.size 110 i0 (.agg #[.int .i64 0, .string ByteArray.empty]) 2 24 Try.underlying92 HI0.out HZ0.out HZ1.out HZ2.out rfl _ n _ rfl HO.out #[.int .i64 o.due, .string o.txt] 1 rfl rfl (by intro u hu; simp at hu; rcases hu with rfl | rfl <;> rfl) (by omega) (by omega) hs0 ?_; rintro A2 c2 w2 hown2 hk2 - -; have HB2 := Lib.hid (bkeep HB.out hk2 (Nat.le_refl _) (fun g e => (HO.out.lt g e).1)); have HO2 := Lib.hid hown2; clear hown2 hk2)
        have HO3 : Hid (w2.ownsRow w.heap.size 110 2 (.slice A2 (n + 1) c2) (n + 1) ((exc X i (k + 1)).flatMap rmCells)) := by
          show World.ownsRow ..
          rw [HEN.out, List.flatMap_append]
          exact HO2.out
        have HN3 : Hid (n + 1 = (exc X i (k + 1)).length) := by show _ = _; rw [HEN.out, List.length_append, ← HN.out]; rfl
        clear hb0
        go_wp2
        go_roundw
        case rel => exact ⟨k + 1, by go_num, by omega, n + 1, A2, c2, rfl, HN3, HO3, HB2⟩
        case measure => simp [intOf]; omega
    · obtain rfl : k = X.length := by omega
      have hx : exc X i X.length = X.eraseIdx i := by unfold exc; rw [if_neg (by omega), List.take_length]
      have hn := HN.out
      have ho := HO.out
      rw [hx] at hn ho
      subst hn
      have HO2 := Lib.hid ho
      clear ho hx HO HN
      go_wp2
      go_ret
      exact ⟨B, d, rfl, HO2.out, HB.out⟩
end
end Go.Proofs.Ytlodiibmofeikaa
