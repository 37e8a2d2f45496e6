/- simnet: what a send leaves. -/
import Derived.Test.YtlodiibmofeikaaQNetSendX
namespace Go.Proofs.Ytlodiibmofeikaa
open Go.RowKit Go.Shelf
set_option linter.unusedVariables false
set_option linter.unusedSimpArgs false
theorem send_end {w w1 w5 W wF : World} {col : Nat → Nat} {nb n : Nat} {delay room j lv : Int} {F : List FD} {m mi : MD} {k : Nat} {t now level : Int} {gd : GD} {pv : Value} {P P' : List PD} {fv : Value} {asks : List AskD} {vs vsi : List Value} {Xs : List (List RM)} {bs : List Int} {col' : Nat → Nat} {u' : Nat} {s' : StN}
    (h : NM w col nb n delay room j lv F m k t) (ha : NetAt w col nb gd delay room pv P fv F m.used m.s ∧ MdAt w (fun q => col q = 0) m asks vs Xs F ∧ PInv n j lv gd.l asks k ∧ gd.j = j ∧ gd.lv = lv ∧ P.length = n + 1 ∧ Xs.length = n + 1 ∧ Same room P Xs ∧ (∀ a ∈ asks, a.now ≤ t))
    (hk : k < 1000) (ht : t ≤ now ∧ now ≤ t + 100) (hb : Below w.heap.size w w1) (hlt1 : w.heap.size < w1.heap.size) (hbl : bs.length ≤ 320)
    (hN5 : NetAt w5 col' nb gd delay room pv P' fv F u' s') (hc : ∀ x, x < w1.heap.size → col' x = col x) (hq : SendL room (now + delay) bs F (P.map (·.l)) m.used m.s (memN gd.l level now n) (P'.map (·.l)) u' s') (hk5 : Keep (fun q => col q ≠ 0 ∧ col q ≠ 5) w1 w5)
    (hM : MdAt W (fun q => (col' q = 0 ∧ q < w.heap.size) ∨ w5.heap.size ≤ q) mi asks vsi (sendX room (now + delay) bs F (memN gd.l level now n) (Xs, m.used, m.s)).1 F) (he : (mi.rc = m.rc ∧ mi.delay = m.delay ∧ mi.room = m.room ∧ mi.j = m.j ∧ mi.lv = m.lv ∧ mi.used = (sendX room (now + delay) bs F (memN gd.l level now n) (Xs, m.used, m.s)).2.1 ∧ mi.s = (sendX room (now + delay) bs F (memN gd.l level now n) (Xs, m.used, m.s)).2.2 ∧ mi.fv = m.fv)) (hkW : Keep (fun q => q = w.heap.size) w5 W)
    (hkF : Keep (fun q => w.heap.size ≤ q ∧ q < w1.heap.size) W wF) : SR w wF col nb n delay room j lv F mi (k + 1) now := by
  obtain ⟨hN0, hM0, hpi, hj, hlv, hPl, hXl, hS, hAt⟩ := ha
  obtain ⟨s1, s2, s3, s4, s5, s6, s7, s8⟩ := he
  have htb := h.tb
  have hkb := h.kb
  have hcf := h.cf
  have hs1 := hb.size
  have hs5 := hk5.size
  have hs6 := hkW.size
  have hd1 := hcf.delay
  have htop := hN0.top
  have htop5 := hN5.top
  have hml := memN_len gd.l level now n
  have hn8 := hcf.n
  have h0 : ∀ (i : Nat) (l : List Msg) (X : List RM), (P.map (·.l))[i]? = some l → Xs[i]? = some X → l.map toR = sorted X := fun i l X hl hX => by
    rw [List.getElem?_map] at hl
    cases hp : P[i]? with
    | none => rw [hp] at hl; cases hl
    | some pd => rw [hp] at hl; cases hl; exact (hS i pd X hp hX).1
  obtain ⟨r1, r2, r3⟩ := hq.rel (by omega) hbl h0 (by rw [List.length_map, hPl, hXl])
  have hin := hq.inv (n := 27 * (k : Int)) (fun l hl => by
    obtain ⟨pd, hpd, rfl⟩ := List.mem_map.1 hl
    obtain ⟨i, hi, hie⟩ := List.mem_iff_getElem.1 hpd
    exact (hS i pd Xs[i] (by rw [List.getElem?_eq_getElem hi, hie]) (List.getElem?_eq_getElem (by omega))).2) h.st
  obtain ⟨q1, q2, q3, q4⟩ := hin
  have hPl' : P'.length = n + 1 := by rw [List.length_map, List.length_map] at q4; omega
  have hkB : Keep (fun q => w.heap.size ≤ q ∧ q < w1.heap.size) w5 wF := (hkW.mono (fun q _ e => by omega)).trans hkF (fun q _ e => e)
  have hN7 := hN5.keep hkB (fun x hx e => hx (by rw [hc x e.2]; exact htop x e.1))
  have hM7 := (hM.keep hkF (fun q a e => by rcases a with a | a <;> omega)).mono (G' := fun q => col' q = 0) (fun q a _ => a.elim (fun a => a.1) (fun a => htop5 q a))
  have hkk : Keep (fun q => col q ≠ 0 ∧ col q ≠ 5) w w5 := (Keep.ofBelowAll hb : Keep (fun q => col q ≠ 0 ∧ col q ≠ 5) w w1).trans hk5 (fun q _ e => e)
  refine ⟨⟨col', ⟨⟨gd, pv, P', fv, asks, vsi, _, by rw [s6, s7, ← r2, ← r3]; exact hN7, hM7, hpi.stay, hj, hlv, hPl', by rw [sendX_len]; exact hXl, ?_, fun a ha => Int.le_trans (hAt a ha) ht.1⟩, ?_, hcf, h.fl, ?_, ?_, by omega, by omega, by rw [s8]; exact h.fvb⟩, fun x hx => hc x (by omega)⟩, hkk.trans hkB (fun q hq e => absurd e.1 (by omega))⟩
  · intro i pd X hp hX
    have hl : (P'.map (·.l))[i]? = some pd.l := by rw [List.getElem?_map, hp]; rfl
    exact ⟨r1 i pd.l X hl hX, q1 pd.l (List.mem_of_getElem? hl)⟩
  · rw [s1, s2, s3, s4, s5]; exact h.cfg
  · rw [s6, ← r2]; have := h.used; omega
  · rw [s7, ← r3]; exact q2.mono (by omega)
end Go.Proofs.Ytlodiibmofeikaa
