/- ranges: the plain law of Cut. -/
import Derived.Test.YthjlbbbkghigfaaRgPlain2
namespace Go.Proofs.Ythjlbbbkghigfaa
open Go.RowKit
set_option linter.unusedVariables false
set_option linter.unusedSimpArgs false

/-- what is left of a stretch -/
def pcs (a c : Int) (x : Int × Int) : List (Int × Int) := (if x.1 < min x.2 a then [(x.1, min x.2 a)] else []) ++ (if max x.1 c < x.2 then [(max x.1 c, x.2)] else [])
/-- what Cut makes of the stretches -/
def cutL (a c : Int) (l : List (Int × Int)) : List (Int × Int) := l.flatMap (pcs a c)
theorem cov_one {x : Int × Int} {n : Int} : cov [x] n = (decide (x.1 ≤ n) && decide (n < x.2)) := by simp [cov]
theorem cov_nil {n : Int} : cov [] n = false := rfl
theorem cov_pcs {a c : Int} {x : Int × Int} {n : Int} (hac : a ≤ c) : cov (pcs a c x) n = (decide (x.1 ≤ n) && decide (n < x.2) && !(decide (a ≤ n) && decide (n < c))) := by
  unfold pcs
  rw [cov_append, Bool.eq_iff_iff]
  by_cases h1 : x.1 < min x.2 a
  · by_cases h2 : max x.1 c < x.2
    · rw [if_pos h1, if_pos h2, cov_one, cov_one]; simp; omega
    · rw [if_pos h1, if_neg h2, cov_one, cov_nil]; simp; omega
  · by_cases h2 : max x.1 c < x.2
    · rw [if_neg h1, if_pos h2, cov_one, cov_nil]; simp; omega
    · rw [if_neg h1, if_neg h2, cov_nil]; simp; omega
theorem cov_cut {a c n : Int} (hac : a ≤ c) : ∀ {l : List (Int × Int)}, cov (cutL a c l) n = (cov l n && !(decide (a ≤ n) && decide (n < c)))
  | [] => by simp [cutL, cov]
  | x :: r => by
    have ih := cov_cut (n := n) hac (l := r)
    unfold cutL at ih ⊢
    rw [List.flatMap_cons, cov_append, ih, cov_pcs hac, cov_cons]
    cases (decide (x.1 ≤ n) && decide (n < x.2)) <;> cases cov r n <;> simp
theorem good_cut {a c : Int} (hac : a < c) : ∀ {l : List (Int × Int)} {lo : Int}, Good lo l → Good lo (cutL a c l)
  | [], lo, _ => trivial
  | x :: r, lo, g => by
    obtain ⟨g1, g2, g3, g4⟩ := g
    have ih := good_cut hac g4
    have ihl : Good lo (cutL a c r) := ih.mono (by omega)
    unfold cutL at ih ihl ⊢
    rw [List.flatMap_cons]
    unfold pcs
    by_cases h1 : x.1 < min x.2 a
    · by_cases h2 : max x.1 c < x.2
      · rw [if_pos h1, if_pos h2]
        exact ⟨g1, h1, by show min x.2 a ≤ 16384; omega, by show min x.2 a < max x.1 c; omega, h2, g3, ih⟩
      · rw [if_pos h1, if_neg h2]
        exact ⟨g1, h1, by show min x.2 a ≤ 16384; omega, ih.mono (by show min x.2 a ≤ x.2; omega)⟩
    · by_cases h2 : max x.1 c < x.2
      · rw [if_neg h1, if_pos h2]
        exact ⟨by show lo < max x.1 c; omega, h2, g3, ih⟩
      · rw [if_neg h1, if_neg h2]
        exact ihl
theorem pcs_below {a c : Int} {x : Int × Int} (h : x.2 ≤ a) (hac : a ≤ c) (hx : x.1 < x.2) : pcs a c x = [x] := by
  unfold pcs
  rw [if_pos (by omega), if_neg (by omega), show min x.2 a = x.2 by omega]
  rfl
theorem pcs_above {a c : Int} {x : Int × Int} (h : c ≤ x.1) (hac : a ≤ c) (hx : x.1 < x.2) : pcs a c x = [x] := by
  unfold pcs
  rw [if_neg (by omega), if_pos (by omega), show max x.1 c = x.1 by omega]
  rfl
theorem flat_same {f : Int × Int → List (Int × Int)} : ∀ {l : List (Int × Int)}, (∀ x ∈ l, f x = [x]) → l.flatMap f = l
  | [], _ => rfl
  | x :: r, h => by rw [List.flatMap_cons, h x (by simp), flat_same (fun y hy => h y (by simp [hy]))]; rfl
/-- the stretches that Cut reaches are all that it changes -/
theorem cut_rep {l : List (Int × Int)} {a c : Int} {p q : Nat} (g : Good (-1) l) (hac : a ≤ c) (hpq : p ≤ q) (hp : ∀ i x, i < p → l[i]? = some x → x.2 ≤ a) (hq : ∀ x, l[q]? = some x → c ≤ x.1) :
    rep l p q (((l.take q).drop p).flatMap (pcs a c)) = cutL a c l := by
  have h1 : l.take p ++ (l.take q).drop p = l.take q := by
    have := List.take_append_drop p (l.take q)
    rwa [List.take_take, Nat.min_eq_left hpq] at this
  have e1 : (l.take p).flatMap (pcs a c) = l.take p := flat_same fun x hx => by
    obtain ⟨i, hi, rfl⟩ := List.getElem_of_mem hx
    rw [List.length_take] at hi
    rw [List.getElem_take]
    have ho := List.getElem?_eq_getElem (show i < l.length by omega)
    exact pcs_below (hp i _ (by omega) ho) hac (g.mem _ (List.mem_of_getElem? ho)).2.1
  have e2 : (l.drop q).flatMap (pcs a c) = l.drop q := flat_same fun x hx => by
    obtain ⟨i, hi, rfl⟩ := List.getElem_of_mem hx
    rw [List.length_drop] at hi
    rw [List.getElem_drop]
    have h0 := List.getElem?_eq_getElem (show q < l.length by omega)
    have ho := List.getElem?_eq_getElem (show q + i < l.length by omega)
    have h2 := hq _ h0
    refine pcs_above ?_ hac (g.mem _ (List.mem_of_getElem? ho)).2.1
    rcases Nat.eq_zero_or_pos i with rfl | hi0
    · exact h2
    · have := g.rise (i := q) (j := q + i) (by omega) h0 ho
      have := (g.mem _ (List.mem_of_getElem? h0)).2.1
      omega
  have e3 : cutL a c l = (l.take p).flatMap (pcs a c) ++ ((l.take q).drop p).flatMap (pcs a c) ++ (l.drop q).flatMap (pcs a c) := by
    unfold cutL
    rw [← List.flatMap_append, h1, ← List.flatMap_append, List.take_append_drop]
  rw [e3, e1, e2]
  rfl
theorem cnt_cut {l l' : List (Int × Int)} {a c : Int} (g : Good (-1) l) (g' : Good (-1) l') (hc : ∀ n, cov l' n = (cov l n && !(decide (a ≤ n) && decide (n < c)))) : tot l - tot l' = cnt 16384 (fun n => decide (a ≤ n) && decide (n < c) && cov l n) := by
  rw [tot_cnt g (by omega), tot_cnt g' (by omega)]
  have e : cnt 16384 (cov l) = cnt 16384 (fun n => cov l' n || (decide (a ≤ n) && decide (n < c) && cov l n)) := cnt_congr (fun i _ => by
    rw [hc]; cases cov l i <;> cases (decide (a ≤ (i : Int)) && decide ((i : Int) < c)) <;> rfl)
  rw [e, cnt_or (fun i _ h => by rw [hc] at h; revert h; cases cov l i <;> cases (decide (a ≤ (i : Int)) && decide ((i : Int) < c)) <;> simp)]
  omega
end Go.Proofs.Ythjlbbbkghigfaa
