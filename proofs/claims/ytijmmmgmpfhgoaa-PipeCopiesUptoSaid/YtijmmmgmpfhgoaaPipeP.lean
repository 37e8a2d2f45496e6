/- pipe: the reference's list, in the order in which things were put; what is first. Plain. -/
import Derived.Test.YtijmmmgmpfhgoaaPipe
namespace Go.Proofs.Ytijmmmgmpfhgoaa
open Go.RowKit
set_option linter.unusedVariables false
set_option linter.unusedSimpArgs false

structure RM where
  due : Int
  txt : ByteArray
def rmCells (o : RM) : List Value := [.int .i64 o.due, .string o.txt]
theorem rmCells_len (o : RM) : (rmCells o).length = 2 := rfl
def toR (m : Msg) : RM := ⟨m.due, strOfNums m.bs⟩
def insR (P : List RM) (m : RM) : List RM := P.takeWhile (fun x => decide (x.due ≤ m.due)) ++ m :: P.dropWhile (fun x => decide (x.due ≤ m.due))
def sorted (X : List RM) : List RM := X.foldl insR []
theorem sorted_snoc (X : List RM) (m : RM) : sorted (X ++ [m]) = insR (sorted X) m := by unfold sorted; rw [List.foldl_append]; rfl
theorem insR_len (P : List RM) (m : RM) : (insR P m).length = P.length + 1 := by
  unfold insR
  have h := congrArg List.length (List.takeWhile_append_dropWhile (p := fun x : RM => decide (x.due ≤ m.due)) (l := P))
  simp only [List.length_append, List.length_cons] at h ⊢
  omega
theorem fold_len : ∀ (X P : List RM), (X.foldl insR P).length = P.length + X.length
  | [], P => by simp
  | m :: X, P => by rw [List.foldl_cons, fold_len X, insR_len, List.length_cons]; omega
theorem sorted_len (X : List RM) : (sorted X).length = X.length := by unfold sorted; rw [fold_len]; simp
theorem insR_cons_lt {y m : RM} {P : List RM} (h : m.due < y.due) : insR (y :: P) m = m :: y :: P := by
  unfold insR
  rw [List.takeWhile_cons_of_neg (by simp; omega), List.dropWhile_cons_of_neg (by simp; omega)]
  rfl
theorem insR_cons_ge {y m : RM} {P : List RM} (h : y.due ≤ m.due) : insR (y :: P) m = y :: insR P m := by
  unfold insR
  rw [List.takeWhile_cons_of_pos (by simpa using h), List.dropWhile_cons_of_pos (by simpa using h)]
  rfl
def lessAt (X : List RM) (i : Nat) (m : RM) : Bool := match X[i]? with | some y => decide (m.due < y.due) | none => false
/-- where the first one is, of the first k -/
def fi (X : List RM) : Nat → Int
  | 0 => -1
  | k + 1 => match X[k]? with
    | some m => if fi X k < 0 ∨ lessAt X (fi X k).toNat m = true then (k : Int) else fi X k
    | none => fi X k
theorem take_erase_snoc {X : List RM} {k i : Nat} {m : RM} (hm : X[k]? = some m) (hi : i < k) : (X.take (k + 1)).eraseIdx i = (X.take k).eraseIdx i ++ [m] := by
  rw [List.take_add_one, hm, Option.toList_some, List.eraseIdx_append_of_lt_length]
  rw [List.length_take]
  have := (List.getElem?_eq_some_iff.1 hm).1
  omega
/-- the first one stands at the list's head -/
theorem sorted_head (X : List RM) : ∀ k, k < X.length → ∃ i m, i ≤ k ∧ fi X (k + 1) = (i : Int) ∧ X[i]? = some m ∧ sorted (X.take (k + 1)) = m :: sorted ((X.take (k + 1)).eraseIdx i)
  | 0, h => by
    obtain ⟨m, hm⟩ : ∃ m, X[0]? = some m := ⟨_, List.getElem?_eq_getElem h⟩
    refine ⟨0, m, Nat.le_refl _, ?_, hm, ?_⟩
    · simp [fi, hm]
    · rw [List.take_add_one, hm]
      simp [sorted, insR]
  | k + 1, h => by
    obtain ⟨i, y, hi, hf, hy, hs⟩ := sorted_head X k (by omega)
    obtain ⟨m, hm⟩ : ∃ m, X[k + 1]? = some m := ⟨_, List.getElem?_eq_getElem h⟩
    have hst : sorted (X.take (k + 1 + 1)) = insR (sorted (X.take (k + 1))) m := by rw [List.take_add_one, hm, Option.toList_some, sorted_snoc]
    have hfe : fi X (k + 1 + 1) = if m.due < y.due then ((k + 1 : Nat) : Int) else (i : Int) := by
      show (match X[k + 1]? with | some m => _ | none => _) = _
      rw [hm]
      simp only
      have hla : lessAt X i m = decide (m.due < y.due) := by unfold lessAt; rw [hy]
      rw [hf, Int.toNat_natCast, hla]
      by_cases hlt : m.due < y.due
      · rw [if_pos (.inr (decide_eq_true hlt)), if_pos hlt]
      · rw [if_neg (by rintro (x | x); · omega
                       · exact hlt (of_decide_eq_true x)), if_neg hlt]
    by_cases hlt : m.due < y.due
    · refine ⟨k + 1, m, Nat.le_refl _, by rw [hfe, if_pos hlt], hm, ?_⟩
      rw [hst, hs, insR_cons_lt hlt, ← hs]
      congr 2
      have e : X.take (k + 1 + 1) = X.take (k + 1) ++ [m] := by rw [List.take_add_one (i := k + 1), hm]; rfl
      rw [e, List.eraseIdx_append_of_length_le (by rw [List.length_take]; omega), List.length_take, Nat.min_eq_left (by omega)]
      simp
    · refine ⟨i, y, by omega, by rw [hfe, if_neg hlt], hy, ?_⟩
      rw [hst, hs, insR_cons_ge (by omega), take_erase_snoc hm (by omega), sorted_snoc]
/-- of the whole list -/
theorem sorted_first {X : List RM} (h : X ≠ []) : ∃ i m, i < X.length ∧ fi X X.length = (i : Int) ∧ X[i]? = some m ∧ sorted X = m :: sorted (X.eraseIdx i) := by
  have h0 : 0 < X.length := List.length_pos_iff.2 h
  obtain ⟨i, m, hi, hf, hm, hs⟩ := sorted_head X (X.length - 1) (by omega)
  rw [show X.length - 1 + 1 = X.length by omega, List.take_length] at hs
  rw [show X.length - 1 + 1 = X.length by omega] at hf
  exact ⟨i, m, by omega, hf, hm, hs⟩
theorem fi_range (X : List RM) : ∀ k, k ≤ X.length → -1 ≤ fi X k ∧ fi X k < k
  | 0, _ => ⟨Int.le_refl _, by simp [fi]⟩
  | k + 1, h => by
    obtain ⟨i, m, hi, hf, -⟩ := sorted_head X k (by omega)
    rw [hf]
    omega
theorem take_len_eq {α : Type} (p : α → Bool) : ∀ l : List α, l.takeWhile p = l.take (l.takeWhile p).length ∧ l.dropWhile p = l.drop (l.takeWhile p).length
  | [] => ⟨rfl, rfl⟩
  | a :: l => by
    by_cases h : p a = true
    · rw [List.takeWhile_cons_of_pos h, List.dropWhile_cons_of_pos h]
      obtain ⟨h1, h2⟩ := take_len_eq p l
      exact ⟨by rw [List.length_cons, List.take_succ_cons, ← h1], by rw [List.length_cons, List.drop_succ_cons, ← h2]⟩
    · rw [List.takeWhile_cons_of_neg h, List.dropWhile_cons_of_neg h]
      exact ⟨rfl, rfl⟩
theorem dueN_map (l : List Msg) (now : Int) : ((l.map toR).takeWhile (fun x => decide (x.due ≤ now))).length = dueN l now := by
  unfold dueN
  rw [List.takeWhile_map, List.length_map]
  rfl
/-- what is put is put behind all that are due as early -/
theorem put_sorted {l : List Msg} {X : List RM} {m : Msg} (h : l.map toR = sorted X) : (put1 l (dueN l m.due) m).map toR = sorted (X ++ [toR m]) := by
  rw [sorted_snoc, ← h]
  unfold insR put1
  obtain ⟨h1, h2⟩ := take_len_eq (fun x : RM => decide (x.due ≤ m.due)) (l.map toR)
  have hd : ((l.map toR).takeWhile (fun x => decide (x.due ≤ (toR m).due))) = (l.map toR).take (dueN l m.due) := by rw [← dueN_map]; exact h1
  have hd2 : ((l.map toR).dropWhile (fun x => decide (x.due ≤ (toR m).due))) = (l.map toR).drop (dueN l m.due) := by rw [← dueN_map]; exact h2
  rw [hd, hd2, List.map_append, List.map_cons, List.map_take, List.map_drop]
theorem sorted_nil {X : List RM} (h : sorted X = []) : X = [] := List.eq_nil_of_length_eq_zero (by rw [← sorted_len, h]; rfl)
/-- the pipe's first is the reference's first -/
theorem head_first {m : Msg} {t : List Msg} {X : List RM} (h : (m :: t).map toR = sorted X) : ∃ i, i < X.length ∧ fi X X.length = (i : Int) ∧ X[i]? = some (toR m) ∧ t.map toR = sorted (X.eraseIdx i) := by
  have hx : X ≠ [] := by rintro rfl; cases h
  obtain ⟨i, y, hi, hf, hy, hs⟩ := sorted_first hx
  rw [hs, List.map_cons, List.cons.injEq] at h
  obtain ⟨rfl, h2⟩ := h
  exact ⟨i, hi, hf, hy, h2⟩
/-- how many are due -/
def cntD (X : List RM) (now : Int) : Nat := X.countP (fun x => decide (x.due ≤ now))
theorem insR_mem {P : List RM} {m x : RM} : x ∈ insR P m ↔ x = m ∨ x ∈ P := by
  unfold insR
  rw [List.mem_append, List.mem_cons]
  have h := List.takeWhile_append_dropWhile (p := fun x : RM => decide (x.due ≤ m.due)) (l := P)
  constructor
  · rintro (h1 | h1 | h1)
    · exact .inr (by rw [← h]; exact List.mem_append_left _ h1)
    · exact .inl h1
    · exact .inr (by rw [← h]; exact List.mem_append_right _ h1)
  · rintro (h1 | h1)
    · exact .inr (.inl h1)
    · rw [← h, List.mem_append] at h1
      exact h1.imp id .inr
theorem insR_cnt (P : List RM) (m : RM) (now : Int) : cntD (insR P m) now = cntD P now + (if m.due ≤ now then 1 else 0) := by
  unfold insR cntD
  have h := congrArg (List.countP (fun x : RM => decide (x.due ≤ now))) (List.takeWhile_append_dropWhile (p := fun x : RM => decide (x.due ≤ m.due)) (l := P))
  simp only [List.countP_append, List.countP_cons, decide_eq_true_eq] at h ⊢
  omega
theorem fold_cnt (now : Int) : ∀ (X P : List RM), cntD (X.foldl insR P) now = cntD P now + cntD X now
  | [], P => by simp [cntD]
  | m :: X, P => by
    rw [List.foldl_cons, fold_cnt now X, insR_cnt]
    unfold cntD
    simp only [List.countP_cons, decide_eq_true_eq]
    omega
theorem sorted_cnt (X : List RM) (now : Int) : cntD (sorted X) now = cntD X now := by unfold sorted; rw [fold_cnt]; simp [cntD]
theorem insR_pair : ∀ {P : List RM} {m : RM}, P.Pairwise (fun a b => a.due ≤ b.due) → (insR P m).Pairwise (fun a b => a.due ≤ b.due)
  | [], m, _ => by simp [insR]
  | y :: P, m, h => by
    rw [List.pairwise_cons] at h
    by_cases hlt : m.due < y.due
    · rw [insR_cons_lt hlt, List.pairwise_cons, List.pairwise_cons]
      refine ⟨fun z hz => ?_, h⟩
      rcases List.mem_cons.1 hz with rfl | hz
      · omega
      · have := h.1 z hz; omega
    · rw [insR_cons_ge (by omega), List.pairwise_cons]
      refine ⟨fun z hz => ?_, insR_pair h.2⟩
      rcases insR_mem.1 hz with rfl | hz
      · omega
      · exact h.1 z hz
theorem fold_pair : ∀ (X P : List RM), P.Pairwise (fun a b => a.due ≤ b.due) → (X.foldl insR P).Pairwise (fun a b => a.due ≤ b.due)
  | [], P, h => h
  | m :: X, P, h => by rw [List.foldl_cons]; exact fold_pair X _ (insR_pair h)
theorem pair_cnt (now : Int) : ∀ {P : List RM}, P.Pairwise (fun a b => a.due ≤ b.due) → cntD P now = (P.takeWhile (fun x => decide (x.due ≤ now))).length
  | [], _ => rfl
  | y :: P, h => by
    rw [List.pairwise_cons] at h
    by_cases hy : y.due ≤ now
    · rw [List.takeWhile_cons_of_pos (by simpa using hy), List.length_cons, ← pair_cnt now h.2]
      unfold cntD
      simp [List.countP_cons, hy]
    · rw [List.takeWhile_cons_of_neg (by simpa using hy)]
      unfold cntD
      rw [List.length_nil, List.countP_eq_zero]
      intro x hx
      rcases List.mem_cons.1 hx with rfl | hx
      · simpa using hy
      · have := h.1 x hx; simp; omega
/-- as many are due of the pipe's as of the reference's -/
theorem due_cnt {l : List Msg} {X : List RM} (h : l.map toR = sorted X) (now : Int) : dueN l now = cntD X now := by
  have h2 := pair_cnt now (P := sorted X) (fold_pair X [] List.Pairwise.nil)
  rw [← dueN_map, h, ← sorted_cnt, h2]
theorem cntD_take (X : List RM) (now : Int) {k : Nat} {m : RM} (hm : X[k]? = some m) : cntD (X.take (k + 1)) now = cntD (X.take k) now + (if m.due ≤ now then 1 else 0) := by
  unfold cntD
  rw [List.take_add_one, hm, Option.toList_some, List.countP_append]
  simp [List.countP_cons]
theorem cntD_le (X : List RM) (now : Int) : cntD X now ≤ X.length := List.countP_le_length
end Go.Proofs.Ytijmmmgmpfhgoaa
