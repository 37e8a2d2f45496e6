/- simnet: what a take leaves. -/
import Derived.Test.YtlodiibmofeikaaQNetStep0
namespace Go.Proofs.Ytlodiibmofeikaa
open Go.RowKit Go.Shelf
set_option linter.unusedVariables false
set_option linter.unusedSimpArgs false
theorem NetAt.recol {w : World} {col col2 : Nat → Nat} {nb : Nat} {gd : GD} {delay room : Int} {pv : Value} {P : List PD} {fv : Value} {F : List FD} {used : Nat} {s : StN} (h : NetAt w col nb gd delay room pv P fv F used s)
    (hc : ∀ q, col q ≠ 0 → col q < 6 + P.length → col2 q = col q) (ht : ∀ x, w.heap.size ≤ x → col2 x = 0) : NetAt w col2 nb gd delay room pv P fv F used s := by
  have e1 := h.c1
  have e2 := h.c2
  have e3 := h.c3
  refine ⟨h.str, h.grp, h.row, h.fates, fun i p hp => ?_, by rw [hc _ (by omega) (by omega)]; exact e1, by rw [hc _ (by omega) (by omega)]; exact e2, by rw [hc _ (by omega) (by omega)]; exact e3, fun x hx => ?_, fun x hx => ?_, ht⟩
  · have hi := (List.getElem?_eq_some_iff.1 hp).1
    refine ((h.pipes i p hp).mono (G' := fun x => col2 x = 6 + i) (fun q hq _ => ?_)).monoR (fun q hq _ => ?_)
    · have hq : col q = 6 + i := hq
      show col2 q = 6 + i
      rw [hc q (by omega) (by omega), hq]
    · have hq : col q = 5 := hq
      show col2 q = 5
      rw [hc q (by omega) (by omega), hq]
  · have := h.c4 x hx; rw [hc _ (by omega) (by omega)]; exact this
  · have := h.c5 x hx; rw [hc _ (by omega) (by omega)]; exact this
theorem Same.set {room : Int} {P : List PD} {Xs : List (List RM)} (h : Same room P Xs) {p : Nat} {pd' : PD} {X' : List RM} (hr : pd'.l.map toR = sorted X') (hl : (pd'.l.length : Int) ≤ room) : Same room (P.set p pd') (Xs.set p X') := by
  intro i pd X hp hX
  by_cases e : p = i
  · subst e
    have h1 : p < P.length := by have := (List.getElem?_eq_some_iff.1 hp).1; simpa using this
    have h2 : p < Xs.length := by have := (List.getElem?_eq_some_iff.1 hX).1; simpa using this
    rw [List.getElem?_set_self h1] at hp
    rw [List.getElem?_set_self h2] at hX
    cases hp
    cases hX
    exact ⟨hr, hl⟩
  · rw [List.getElem?_set_ne e] at hp hX
    exact h i pd X hp hX
/-- boxes' colour -/
def colB (col : Nat → Nat) (lo hi c : Nat) : Nat → Nat := fun q => if lo ≤ q ∧ q < hi then c else col q
theorem take_end {w w1 w5 wF : World} {col : Nat → Nat} {nb n : Nat} {delay room j lv : Int} {F : List FD} {m m' : MD} {k : Nat} {t now : Int} {gd : GD} {pv : Value} {P : List PD} {fv : Value} {asks : List AskD} {vs : List Value} {Xs : List (List RM)} {p : Nat} {pd : PD}
    (h : NM w col nb n delay room j lv F m k t) (ha : NetAt w col nb gd delay room pv P fv F m.used m.s ∧ MdAt w (fun q => col q = 0) m asks vs Xs F ∧ PInv n j lv gd.l asks k ∧ gd.j = j ∧ gd.lv = lv ∧ P.length = n + 1 ∧ Xs.length = n + 1 ∧ Same room P Xs ∧ (∀ a ∈ asks, a.now ≤ t))
    (hk : k < 1000) (ht : t ≤ now ∧ now ≤ t + 100) (hb : Below w.heap.size w w1) (hp : P[p]? = some pd) (hl : (pd.l.length : Int) ≤ room) (tk : TkR w1 w5 (colB col w.heap.size w1.heap.size (6 + P.length)) nb gd delay room pv P fv m.used m.s m m' asks Xs F F p pd now)
    (hkF : Keep (fun q => w.heap.size ≤ q ∧ q < w1.heap.size) w5 wF) : SR w wF col nb n delay room j lv F m' (k + 1) now := by
  obtain ⟨hN0, hM0, hpi, hj, hlv, hPl, hXl, hS, hAt⟩ := ha
  obtain ⟨⟨v', X', vs', hN5, hM5, hrel⟩, ⟨s1, s2, s3, s4, s5, s6, s7, s8, s9⟩, hk5⟩ := tk
  have htb := h.tb
  have hs1 := hb.size
  have hs5 := hk5.size
  have htop := hN0.top
  have hpl : p < P.length := (List.getElem?_eq_some_iff.1 hp).1
  have hN6 := hN5.recol (col2 := col) (fun q h0 h1 => by
    rw [List.length_set] at h1
    unfold colB at h0 h1 ⊢
    split at h0
    · rename_i e; rw [if_pos e] at h1; omega
    · rename_i e; rw [if_neg e]) (fun x hx => htop x (by omega))
  have hN7 := hN6.keep hkF (fun x hx e => hx (htop x e.1))
  have hM6 := hM5.mono (G' := fun q => col q = 0 ∧ ¬ (w.heap.size ≤ q ∧ q < w1.heap.size)) (fun q h0 _ => by
    have h0 : colB col w.heap.size w1.heap.size (6 + P.length) q = 0 := h0
    unfold colB at h0
    split at h0
    · omega
    · rename_i e; exact ⟨h0, e⟩)
  have hM7 := (hM6.keep hkF (fun q a e => a.2 e)).mono (G' := fun q => col q = 0) (fun q a _ => a.1)
  have hkk : Keep (fun q => col q ≠ 0 ∧ col q ≠ 5) w w5 := (Keep.ofBelowAll hb : Keep (fun q => col q ≠ 0 ∧ col q ≠ 5) w w1).trans hk5 (fun q hq e => by
    have e : colB col w.heap.size w1.heap.size (6 + P.length) q = 6 + p := e
    unfold colB at e
    rw [if_neg (by omega)] at e
    omega)
  refine ⟨⟨col, ⟨⟨gd, pv, _, fv, asks, vs', _, by rw [s8, s9]; exact hN7, hM7, hpi.stay, hj, hlv, by rw [List.length_set]; exact hPl, by rw [List.length_set]; exact hXl, hS.set hrel ?_, fun a ha => Int.le_trans (hAt a ha) ht.1⟩, ?_, h.cf, h.fl, ?_, ?_, by omega, by omega, by rw [s7]; exact h.fvb⟩, fun _ _ => rfl⟩, hkk.trans hkF (fun q hq e => absurd e.1 (by omega))⟩
  · show (((pd.l.drop (dueN pd.l now)).length : Nat) : Int) ≤ room
    rw [List.length_drop]; omega
  · rw [s1, s2, s3, s4, s5]; exact h.cfg
  · rw [s8]; have := h.used; omega
  · rw [s9]; exact h.st.mono (by omega)
end Go.Proofs.Ytlodiibmofeikaa
