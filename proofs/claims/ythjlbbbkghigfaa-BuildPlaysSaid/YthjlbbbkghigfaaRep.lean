/- what lies in a row is written anew: copy, append, clear of any number of elements. -/
import Derived.Test.YthjlbbbkghigfaaIns
namespace Go.Proofs.Ythjlbbbkghigfaa
open Go.RowKit
set_option linter.unusedVariables false
set_option linter.unusedSimpArgs false
section
variable {P : Program}
theorem splice_nil {α : Type} (L : List α) (o : Nat) : splice L o [] = L := by unfold splice; simp
/-- copy of m elements -/
theorem run_cpy (w : World) (dT sT ty elem : TypeId) (g o dLen dCap : Nat) (cur : Array Value) (T : TypeId) (size : Nat) (hu : P.underlying dT = some (.slice elem)) (hs : (P.info? elem).map (·.size) = some size)
    (hg : Blk w g cur T) (A : Option Addr) (m c : Nat) (news : List Value) (hr : Reads w size (.slice A m c) m news) (h1 : ∀ v ∈ news, v.oneCell' = true) (hm : m ≤ dLen) (hfit : o + news.length ≤ cur.size) :
    ∃ W, (Builtin.copy_ #[dT, sT] ty #[.slice (some ⟨g, o, none⟩) dLen dCap, .slice A m c]).run P w = .ok (goInt m) W ∧ Blk W g (splice cur.toList o news).toArray T ∧ Keep (fun k => k = g) w W := by
  rcases Nat.eq_zero_or_pos m with rfl | h0
  · have hn : news = [] := List.eq_nil_of_length_eq_zero (by simpa using hr.len)
    subst hn
    refine ⟨w, run_copyN0 (P := P) w dT sT ty elem _ _ dLen dCap 0 c size hu hs (by simp), ?_, Keep.refl _ _⟩
    rw [splice_nil]
    simpa using hg
  · obtain ⟨A', c', he, h2, h3, h4, -⟩ := hr.val
    cases he
    cases A with
    | none => have := (h4 rfl).1; omega
    | some a =>
      have e := run_copyN (P := P) w dT sT ty elem g o dLen dCap a m c cur T news size hu hs hg (by rw [hr.len, show Nat.min m dLen = m from Nat.min_eq_left hm]) hr.news hfit h1
      rw [show Nat.min m dLen = m from Nat.min_eq_left hm] at e
      exact ⟨_, e, setRow_heap w g cur _ T _ hg, (Keep.refl (fun k => k = g) w).setRow (.inl rfl) _⟩
/-- append of m elements where there is room -/
theorem run_apn (w : World) (t ty e : TypeId) (i : TypeInfo) (ht : P.underlying t = some (.slice e)) (hi : P.info? e = some i) {size : Nat} (hsize : i.size = size) (g n cap : Nat) (cur : Array Value) (hg : Blk w g cur e) (hcs : cur.size = cap * size) (hcm : cap ≤ maxLen)
    (A : Option Addr) (m c : Nat) (news : List Value) (hr : Reads w size (.slice A m c) m news) (h1 : ∀ v ∈ news, v.oneCell' = true) (hroom : n + m ≤ cap) :
    ∃ W, (Builtin.append_ #[t, t] ty #[.slice (some ⟨g, 0, none⟩) n cap, .slice A m c]).run P w = .ok (.slice (some ⟨g, 0, none⟩) (n + m) cap) W ∧ Blk W g (splice cur.toList (n * size) news).toArray e ∧ Keep (fun k => k = g) w W := by
  have hnl := hr.len
  have hfit : n * size + news.length ≤ cur.size := by rw [hnl, hcs, ← Nat.add_mul]; exact Nat.mul_le_mul_right _ hroom
  obtain ⟨A', c', he, h2, h3, h4, -⟩ := hr.val
  cases he
  cases A with
  | some a =>
    exact ⟨_, run_append_in (P := P) w t ty e i ht hi hsize g n cap cur hg a m c news hnl hr.news h1 hroom hfit, setRow_heap w g cur _ e _ hg, (Keep.refl (fun k => k = g) w).setRow (.inl rfl) _⟩
  | none =>
    obtain ⟨rfl, rfl⟩ := h4 rfl
    have hn : news = [] := List.eq_nil_of_length_eq_zero (by simpa using hnl)
    subst hn
    have ho : w.ownsRow 0 e size (.slice (some ⟨g, 0, none⟩) n cap) n (cur.toList.take (n * size)) := ownsRow_of cur (Nat.zero_le _) hg (by omega) hcm hcs rfl (by
      rw [List.length_take, Nat.min_eq_left]
      have e1 : cur.toList.length = cur.size := by simp
      simp only [List.length_nil, Nat.add_zero] at hfit
      omega)
    refine ⟨w, run_app_nil (P := P) w 0 t ty e i size ht hi _ n _ ho, ?_, Keep.refl _ _⟩
    rw [splice_nil]
    simpa using hg
/-- clear of n elements -/
theorem run_clr (w : World) (t e ty : TypeId) (z : Value) (ht : P.underlying t = some (.slice e)) (hv : ∀ w, (zeroValue e).run P w = .ok z w) (h1 : ∀ v ∈ z.cells.toList, v.oneCell' = true)
    (A : Option Addr) (g o n c : Nat) (hA : n = 0 ∨ A = some ⟨g, o, none⟩) (cur : Array Value) (T : TypeId) (hg : Blk w g cur T) (hfit : o + n * z.cells.size ≤ cur.size) :
    ∃ W cur', (Builtin.clear_ #[t] ty #[.slice A n c]).run P w = .ok (.tuple #[]) W ∧ Blk W g cur' T ∧ cur'.size = cur.size ∧ cur'.toList.take o = cur.toList.take o ∧ Keep (fun k => k = g) w W := by
  rcases Nat.eq_zero_or_pos n with rfl | h0
  · refine ⟨w, cur, ?_, hg, rfl, rfl, Keep.refl _ _⟩
    cases A <;> simp [Builtin.clear_, run_underlying ht]
  · obtain rfl : A = some ⟨g, o, none⟩ := hA.resolve_left (by omega)
    obtain ⟨zs, hzs⟩ : ∃ zs, zs = (Builtin.zeroCells z.cells n).toList := ⟨_, rfl⟩
    have hzl : zs.length = n * z.cells.size := by rw [hzs, Array.length_toList, size_zeroCells]
    have hzo : ∀ v ∈ zs, v.oneCell' = true := by
      rw [hzs]
      intro v hvv
      obtain ⟨a, ha, rfl⟩ : ∃ a, a < n * z.cells.size ∧ z.cells[a % z.cells.size]! = v := by simpa [Builtin.zeroCells] using hvv
      have hpos : 0 < z.cells.size := by
        rcases Nat.eq_zero_or_pos z.cells.size with e | e
        · rw [e, Nat.mul_zero] at ha; omega
        · exact e
      have hlt := Nat.mod_lt a hpos
      rw [getElem!_pos z.cells _ hlt]
      exact h1 _ (by simp)
    have hst := run_storeCells_at P g o T zs 0 cur w hg (by rw [hzl]; simpa using hfit) hzo
    simp only [Nat.add_zero] at hst
    have hn : n ≠ 0 := by omega
    have hfz : o + zs.length ≤ cur.toList.length := by rw [hzl]; simpa using hfit
    refine ⟨w.setRow g (splice cur.toList o zs).toArray, (splice cur.toList o zs).toArray, ?_, setRow_heap w g cur _ T _ hg, ?_, ?_, (Keep.refl (fun k => k = g) w).setRow (.inl rfl) _⟩
    · simp [Builtin.clear_, run_underlying ht, hv, hst, splice, ← hzs]
    · rw [List.size_toArray, splice_len _ _ _ hfz]; simp
    · show (splice cur.toList o zs).take o = _
      unfold splice
      rw [List.take_left' (by rw [List.length_take]; omega)]
theorem run_clr0 (w : World) (t e ty : TypeId) (ht : P.underlying t = some (.slice e)) (A : Option Addr) (c : Nat) : (Builtin.clear_ #[t] ty #[.slice A 0 c]).run P w = .ok (.tuple #[]) w := by
  cases A <;> simp [Builtin.clear_, run_underlying ht]
end
end Go.Proofs.Ythjlbbbkghigfaa
