/- gaps: what is asked for: the plain law. -/
import Derived.Test.YtkgngmmlfoiajaaGaps3
namespace Go.Proofs.Ytkgngmmlfoiajaa
open Go.RowKit
set_option linter.unusedVariables false
set_option linter.unusedSimpArgs false

/-- stretches that rise, none empty, no two touch -/
structure Up (l : List (Int × Int)) : Prop where
  each : ∀ x ∈ l, 0 ≤ x.1 ∧ x.1 < x.2 ∧ x.2 ≤ 16384
  rise : l.Pairwise fun x y => x.2 < y.1
theorem up_nil : Up [] := ⟨fun x h => by simp at h, List.Pairwise.nil⟩
theorem touch_snoc (l : List (Int × Int)) (x : Int × Int) (b : Int) : touch (l ++ [x]) b = decide (x.2 = b) := by unfold touch; simp
theorem touch_nil (b : Int) : touch [] b = false := rfl
theorem bump_snoc (l : List (Int × Int)) (x : Int × Int) : bump (l ++ [x]) = l ++ [(x.1, x.2 + 1)] := by unfold bump; simp
theorem askGo_spec (now m lg : Int) : ∀ (l : List Hole) (out : List (Int × Int)), Rising l → (∀ o ∈ l, 0 ≤ o.block ∧ o.block < 16384) → Up out → (∀ x ∈ out, ∀ o ∈ l, x.2 ≤ o.block) →
    Up (askGo now m lg l out).2 ∧ ∀ y ∈ (askGo now m lg l out).2, ∀ b : Int, y.1 ≤ b → b < y.2 → (∃ x ∈ out, x.1 ≤ b ∧ b < x.2) ∨ ∃ o ∈ l, o.block = b ∧ o.due ≤ now ∧ ask1 now lg o ∈ (askGo now m lg l out).1
  | [], out, _, _, hu, _ => ⟨hu, fun y hy b h1 h2 => .inl ⟨y, hy, h1, h2⟩⟩
  | h :: t, out, hr, hbd, hu, he => by
    have hr2 := hr
    rw [rising_pair, List.pairwise_cons] at hr2
    have hrt : Rising t := rising_pair.2 hr2.2
    have hbt : ∀ o ∈ t, 0 ≤ o.block ∧ o.block < 16384 := fun o ho => hbd o (by simp [ho])
    obtain ⟨hb0, hb1⟩ := hbd h (by simp)
    unfold askGo
    split
    · obtain ⟨i1, i2⟩ := askGo_spec now m lg t out hrt hbt hu (fun x hx o ho => he x hx o (by simp [ho]))
      refine ⟨i1, fun y hy b h1 h2 => ?_⟩
      rcases i2 y hy b h1 h2 with h | ⟨o, ho, h3, h4, h5⟩
      · exact .inl h
      · exact .inr ⟨o, by simp [ho], h3, h4, by simp [h5]⟩
    · rename_i hd
      split
      · rename_i ht
        obtain ⟨ini, x, rfl⟩ : ∃ ini x, out = ini ++ [x] := by
          rcases List.eq_nil_or_concat out with rfl | ⟨ini, x, rfl⟩
          · rw [touch_nil] at ht; cases ht
          · exact ⟨ini, x, by simp⟩
        rw [touch_snoc] at ht
        have hx := of_decide_eq_true ht
        rw [bump_snoc]
        obtain ⟨e1, e2⟩ := hu
        obtain ⟨x1, x2, x3⟩ := e1 x (by simp)
        have hu2 : Up (ini ++ [(x.1, x.2 + 1)]) := by
          refine ⟨fun y hy => ?_, ?_⟩
          · rcases List.mem_append.1 hy with hy | hy
            · exact e1 y (by simp [hy])
            · obtain rfl : y = (x.1, x.2 + 1) := by simpa using hy
              exact ⟨x1, by simp only; omega, by simp only; omega⟩
          · rw [List.pairwise_append] at e2 ⊢
            refine ⟨e2.1, by simp, fun a ha y hy => ?_⟩
            obtain rfl : y = (x.1, x.2 + 1) := by simpa using hy
            exact e2.2.2 a ha x (by simp)
        obtain ⟨i1, i2⟩ := askGo_spec now m lg t _ hrt hbt hu2 (fun y hy o ho => by
          rcases List.mem_append.1 hy with hy | hy
          · exact he y (by simp [hy]) o (by simp [ho])
          · obtain rfl : y = (x.1, x.2 + 1) := by simpa using hy
            have := hr2.1 o ho
            simp only; omega)
        refine ⟨i1, fun y hy b h1 h2 => ?_⟩
        rcases i2 y hy b h1 h2 with ⟨z, hz, h3, h4⟩ | ⟨o, ho, h3, h4, h5⟩
        · rcases List.mem_append.1 hz with hz | hz
          · exact .inl ⟨z, by simp [hz], h3, h4⟩
          · obtain rfl : z = (x.1, x.2 + 1) := by simpa using hz
            simp only at h3 h4
            by_cases e : b < x.2
            · exact .inl ⟨x, by simp, h3, e⟩
            · exact .inr ⟨h, by simp, by omega, by omega, by simp⟩
        · exact .inr ⟨o, by simp [ho], h3, h4, by simp [h5]⟩
      · rename_i ht
        split
        · exact ⟨hu, fun y hy b h1 h2 => .inl ⟨y, hy, h1, h2⟩⟩
        · obtain ⟨e1, e2⟩ := hu
          have hlt : ∀ a ∈ out, a.2 < h.block := by
            intro a ha
            have h1 := he a ha h (by simp)
            rcases (show out = [] ∨ ∃ ini x, out = ini ++ [x] by
              rcases List.eq_nil_or_concat out with rfl | ⟨ini, x, rfl⟩
              · exact .inl rfl
              · exact .inr ⟨ini, x, by simp⟩) with rfl | ⟨ini, x, rfl⟩
            · simp at ha
            · rw [touch_snoc] at ht
              have hx : x.2 ≠ h.block := by simpa using ht
              have hx2 := he x (by simp) h (by simp)
              rcases List.mem_append.1 ha with ha | ha
              · rw [List.pairwise_append] at e2
                have := e2.2.2 a ha x (by simp)
                have := e1 x (by simp)
                omega
              · obtain rfl : a = x := by simpa using ha
                omega
          have hu2 : Up (out ++ [(h.block, h.block + 1)]) := by
            refine ⟨fun y hy => ?_, ?_⟩
            · rcases List.mem_append.1 hy with hy | hy
              · exact e1 y hy
              · obtain rfl : y = (h.block, h.block + 1) := by simpa using hy
                exact ⟨hb0, by simp only; omega, by simp only; omega⟩
            · rw [List.pairwise_append]
              refine ⟨e2, by simp, fun a ha y hy => ?_⟩
              obtain rfl : y = (h.block, h.block + 1) := by simpa using hy
              exact hlt a ha
          obtain ⟨i1, i2⟩ := askGo_spec now m lg t _ hrt hbt hu2 (fun y hy o ho => by
            rcases List.mem_append.1 hy with hy | hy
            · exact he y hy o (by simp [ho])
            · obtain rfl : y = (h.block, h.block + 1) := by simpa using hy
              have := hr2.1 o ho
              simp only; omega)
          refine ⟨i1, fun y hy b h1 h2 => ?_⟩
          rcases i2 y hy b h1 h2 with ⟨z, hz, h3, h4⟩ | ⟨o, ho, h3, h4, h5⟩
          · rcases List.mem_append.1 hz with hz | hz
            · exact .inl ⟨z, hz, h3, h4⟩
            · obtain rfl : z = (h.block, h.block + 1) := by simpa using hz
              simp only at h3 h4
              exact .inr ⟨h, by simp, by omega, by omega, by simp⟩
          · exact .inr ⟨o, by simp [ho], h3, h4, by simp [h5]⟩

theorem askL_spec {K : Nat} {now most lg : Int} {l : List Hole} (h : Rl K l) : Up (askL now most lg l).2 ∧ ∀ y ∈ (askL now most lg l).2, ∀ b : Int, y.1 ≤ b → b < y.2 → ∃ o ∈ l, o.block = b ∧ o.due ≤ now ∧ ask1 now lg o ∈ (askL now most lg l).1 := by
  unfold askL
  split
  · obtain ⟨h1, h2⟩ := askGo_spec now (min most 16) lg l [] h.ris (fun o ho => ⟨(h.fine o ho).b0, (h.fine o ho).b1⟩) up_nil (fun x hx => by simp at hx)
    refine ⟨h1, fun y hy b h3 h4 => ?_⟩
    rcases h2 y hy b h3 h4 with ⟨x, hx, -⟩ | h
    · simp at hx
    · exact h
  · exact ⟨up_nil, fun y hy => by simp at hy⟩
theorem askL_few {now most lg : Int} {l : List Hole} : ((askL now most lg l).2.length : Int) ≤ max most 0 ∧ (askL now most lg l).2.length ≤ 16 := by
  unfold askL
  split
  · have h := askGo_out now (min most 16) lg (max (min most 16) 0).toNat (by omega) l [] (by simp)
    omega
  · simp only [List.length_nil]; omega
/-- what was asked for is not asked for again -/
theorem askL_again {K : Nat} {now most lg : Int} {l : List Hole} (h : Rl K l) (h1 : 1 ≤ lg) (h2 : lg ≤ 1048576) {y u : Int × Int} (hy : y ∈ (askL now 16 lg (askL now most lg l).1).2) (hu : u ∈ (askL now most lg l).2) : ¬ (y.1 < u.2 ∧ u.1 < y.2) := by
  intro ⟨c1, c2⟩
  have hr := askL_rl (now := now) (most := most) h h1 h2
  obtain ⟨u1, u2⟩ := askL_spec (now := now) (most := most) (lg := lg) h
  obtain ⟨y1, y2⟩ := askL_spec (now := now) (most := 16) (lg := lg) hr
  obtain ⟨-, hul, -⟩ := u1.each u hu
  obtain ⟨-, hyl, -⟩ := y1.each y hy
  obtain ⟨o, ho, hob, hod, hoa⟩ := u2 u hu (max y.1 u.1) (by omega) (by omega)
  obtain ⟨p, hp, hpb, hpd, -⟩ := y2 y hy (max y.1 u.1) (by omega) (by omega)
  have e : p = ask1 now lg o := rising_uniq hr.ris hp hoa (by rw [hpb]; exact hob.symm)
  have hw := (h.fine o ho).w0
  rw [e] at hpd
  simp only [ask1] at hpd
  omega
end Go.Proofs.Ytkgngmmlfoiajaa
