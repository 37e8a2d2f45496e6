/- simnet: what a give leaves. -/
import Derived.Test.YtlodiibmofeikaaQNetStepB
namespace Go.Proofs.Ytlodiibmofeikaa
open Go.RowKit Go.Shelf
set_option linter.unusedVariables false
set_option linter.unusedSimpArgs false
theorem give_end {w w1 w5 w6 wF : World} {col : Nat → Nat} {nb n : Nat} {delay room j lv : Int} {F : List FD} {m m' : MD} {k : Nat} {t now : Int} {gd : GD} {pv : Value} {P : List PD} {fv : Value} {asks : List AskD} {vs : List Value} {Xs : List (List RM)} {p : Nat} {pd : PD} {X : List RM} {bs : List Int} {col' : Nat → Nat} {v' : Value} {l' : List Msg} {s' : StN}
    (h : NM w col nb n delay room j lv F m k t) (ha : NetAt w col nb gd delay room pv P fv F m.used m.s ∧ MdAt w (fun q => col q = 0) m asks vs Xs F ∧ PInv n j lv gd.l asks k ∧ gd.j = j ∧ gd.lv = lv ∧ P.length = n + 1 ∧ Xs.length = n + 1 ∧ Same room P Xs ∧ (∀ a ∈ asks, a.now ≤ t))
    (hk : k < 1000) (ht : t ≤ now ∧ now ≤ t + 100) (hb : Below w.heap.size w w1) (hp : P[p]? = some pd) (hX : Xs[p]? = some X) (hbl : bs.length ≤ 320)
    (hN5 : NetAt w5 col' nb gd delay room pv (P.set p ⟨pd.b, v', l'⟩) fv F (usedN F m.used) s') (hc : ∀ x, x < w1.heap.size → col' x = col x) (hg : GiveL room (fateOf F m.used) (now + delay) bs pd.l m.s l' s') (hk5 : Keep (fun q => col q ≠ 0 ∧ col q ≠ 5) w1 w5)
    (mg : MgR w5 w6 (fun q => col' q = 0 ∧ q < w.heap.size) m m' asks Xs F p (giveX m.room (now + m.delay) bs (fateOf F m.used) X m.s).1 (giveX m.room (now + m.delay) bs (fateOf F m.used) X m.s).2)
    (hkF : Keep (fun q => w.heap.size ≤ q ∧ q < w1.heap.size) w6 wF) : SR w wF col nb n delay room j lv F m' (k + 1) now := by
  obtain ⟨hN0, hM0, hpi, hj, hlv, hPl, hXl, hS, hAt⟩ := ha
  obtain ⟨⟨vs', hM6⟩, ⟨s1, s2, s3, s4, s5, s6, s7⟩, s8, s9, hb6⟩ := mg
  obtain ⟨c1, c2, c3, c4, c5⟩ := h.cfg
  have htb := h.tb
  have hkb := h.kb
  have hcf := h.cf
  have hs1 := hb.size
  have hs5 := hk5.size
  have hs6 := hb6.size
  have htop := hN0.top
  have htop5 := hN5.top
  obtain ⟨hrel, hroom⟩ := hS p pd X hp hX
  have hd1 := hcf.delay
  obtain ⟨g1, g2⟩ := giveL_rel hg hrel (by omega) hbl
  rw [c3, c2] at hM6 s9
  have hN7 := (hN5.below hb6).keep hkF (fun x hx e => hx (by rw [hc x e.2]; exact htop x e.1))
  have hM7 := (hM6.keep hkF (fun q a e => by rcases a with a | a <;> omega)).mono (G' := fun q => col' q = 0) (fun q a _ => a.elim (fun a => a.1) (fun a => htop5 q a))
  have hkk : Keep (fun q => col q ≠ 0 ∧ col q ≠ 5) w w5 := (Keep.ofBelowAll hb : Keep (fun q => col q ≠ 0 ∧ col q ≠ 5) w w1).trans hk5 (fun q _ e => e)
  have hkk6 : Keep (fun q => col q ≠ 0 ∧ col q ≠ 5) w w6 := hkk.trans (Keep.none hb6) (fun q _ e => e.elim)
  refine ⟨⟨col', ⟨⟨gd, pv, _, fv, asks, vs', _, by rw [s8, s9, ← g2]; exact hN7, hM7, hpi.stay, hj, hlv, by rw [List.length_set]; exact hPl, by rw [List.length_set]; exact hXl, hS.set g1 (hg.len hroom), fun a ha => Int.le_trans (hAt a ha) ht.1⟩, ?_, hcf, h.fl, ?_, ?_, by omega, by omega, by rw [s7]; exact h.fvb⟩, fun x hx => hc x (by omega)⟩, hkk6.trans hkF (fun q hq e => absurd e.1 (by omega))⟩
  · rw [s1, s2, s3, s4, s5]; exact h.cfg
  · rw [s8]; have := h.used; have := usedN_le F m.used; omega
  · rw [s9, ← g2]; exact (hg.stb h.st).mono (by omega)
end Go.Proofs.Ytlodiibmofeikaa
