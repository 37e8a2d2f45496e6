/- simnet: the law's step of kind 1. -/
import Derived.Test.YtlodiibmofeikaaQNetStep0
import Derived.Test.YtlodiibmofeikaaQEE
namespace Go.Proofs.Ytlodiibmofeikaa
open Go.RowKit Go.Shelf
set_option linter.unusedVariables false
set_option linter.unusedSimpArgs false
theorem newAt (w : World) (o : Obj) {nb : Nat} (h : nb = w.heap.size) : (w.alloc o).heap[nb]? = some o := by subst h; exact heap_alloc_new w o
theorem madeAt (w : World) {e : TypeId} {base size nb : Nat} (h : nb = w.heap.size) (hb : base ≤ w.heap.size) : (w.alloc (.cells #[] e)).ownsRow base e size (.slice (some ⟨nb, 0, none⟩) 0 0) 0 [] := by subst h; exact World.ownsRow_made w #[] 0 hb (Nat.zero_le _) (by simp)
theorem rfold_asked (j lv r : Int) (x : List AskD) (t : Int) (h0 : 0 ≤ t) (h : ∀ a ∈ x, a.now ≤ t) : (rfold j lv r x).asked ≤ t := by
  suffices hs : ∀ (x : List AskD) (s : One), s.asked ≤ t → (∀ a ∈ x, a.now ≤ t) → (x.foldl (rstep j lv r) s).asked ≤ t from hs x one0 h0 h
  intro x
  induction x with
  | nil => intro s hs _; exact hs
  | cons a x ih =>
    intro s hs hx
    refine ih _ ?_ (fun b hb => hx b (List.mem_cons_of_mem _ hb))
    unfold rstep
    split
    · exact hx a (by simp)
    · exact hs
theorem MdAt.askN {w : World} {G : Nat → Prop} {m : MD} {asks : List AskD} {vs : List Value} {Xs : List (List RM)} {F : List FD} (h : MdAt w G m asks vs Xs F) {av' : Value} {a : AskD} (hr : w.ownsRow 0 87 3 av' (asks ++ [a]).length ((asks ++ [a]).flatMap askCells)) (hg : ∀ g, av'.ownBlock = some g → G g) : MdAt w G { m with av := av' } (asks ++ [a]) vs Xs F :=
  ⟨hr, h.lists, h.len, h.each, h.fates, h.fg, hg, h.gl⟩
theorem ask_end {w w1 w3 wF : World} {col : Nat → Nat} {nb n : Nat} {delay room j lv : Int} {F : List FD} {m : MD} {k : Nat} {t now : Int} {gd : GD} {pv : Value} {P : List PD} {fv : Value} {asks : List AskD} {vs : List Value} {Xs : List (List RM)} {rn : Nat} {r level : Int} {A8 : Option Addr} {c8 : Nat}
    (h : NM w col nb n delay room j lv F m k t) (ha : NetAt w col nb gd delay room pv P fv F m.used m.s ∧ MdAt w (fun q => col q = 0) m asks vs Xs F ∧ PInv n j lv gd.l asks k ∧ gd.j = j ∧ gd.lv = lv ∧ P.length = n + 1 ∧ Xs.length = n + 1 ∧ Same room P Xs ∧ (∀ a ∈ asks, a.now ≤ t))
    (hk : k < 1000) (ht : t ≤ now ∧ now ≤ t + 100) (hb : Below w.heap.size w w1) (hN3 : NetAt w3 col nb ⟨gd.b, gd.g, gd.c, gd.l.set rn (stp j lv (rfold j lv rn asks) level now), gd.j, gd.lv⟩ delay room pv P fv F m.used m.s) (hk3 : Keep (fun q => q = gd.g) w1 w3) (hkF : Keep (fun q => w.heap.size ≤ q) w3 wF)
    (hrow : wF.ownsRow w3.heap.size 87 3 (.slice A8 (asks.length + 1) c8) (asks.length + 1) (asks.flatMap askCells ++ #[Value.int .i64 r, .int .i64 level, .int .i64 now].toList)) (hr : r = rn) (hrn : rn < n) : SR w wF col nb n delay room j lv F { m with av := .slice A8 (asks.length + 1) c8 } (k + 1) now := by
  obtain ⟨hN0, hM0, hpi, hj, hlv, hPl, hXl, hS, hAt⟩ := ha
  subst hr
  have htb := h.tb
  have hs3 := hk3.size
  have hs1 := hb.size
  have hc3 : col gd.g = 3 := hN0.c3
  have hlt : ∀ q, col q ≠ 0 → q < w.heap.size := fun q hq => hN0.lt hq
  have hM1 := hM0.mono (G' := fun q => col q = 0 ∧ q < w.heap.size) (fun q a b => ⟨a, b⟩)
  have hM2 := ((hM1.below hb).keep hk3 (fun q a e => by rw [e, hc3] at a; omega)).keep hkF (fun q a e => by have := a.2; omega)
  have hM3 := (hM2.mono (G' := fun q => col q = 0) (fun q a _ => a.1)).askN (a := ⟨(rn : Int), level, now⟩) (av' := .slice A8 (asks.length + 1) c8) (by
    rw [List.length_append, List.flatMap_append]; exact ownsRow_base hrow (Nat.zero_le _)) (fun g hg => hN0.top g (by have := (hrow.lt g hg).1; omega))
  refine ⟨⟨col, ⟨⟨_, pv, P, fv, asks ++ [⟨(rn : Int), level, now⟩], vs, Xs, hN3.keep hkF (fun q hq e => by have := hlt q hq; omega), hM3, hpi.take rn level now hrn (by have := h.kb; omega), hj, hlv, hPl, hXl, hS, ?_⟩, h.cfg, h.cf, h.fl, by have := h.used; show m.used ≤ _; omega, h.st.mono (by omega), by omega, by omega, h.fvb⟩, fun _ _ => rfl⟩, ?_⟩
  · intro a ha
    rcases List.mem_append.1 ha with ha | ha
    · have := hAt a ha; omega
    · simp at ha; subst ha; exact Int.le_refl _
  · have h1 : Keep (fun q => col q ≠ 0 ∧ col q ≠ 5) w w3 := (Keep.ofBelowAll hb : Keep (fun q => col q ≠ 0 ∧ col q ≠ 5) w w1).trans hk3 (fun q _ e => by rw [e, hc3]; exact ⟨by decide, by decide⟩)
    exact h1.trans hkF (fun q hq e => absurd hq (by omega))
section
variable {P : Program} {ops : Array Oper} {md : Region.Mode} {Q : Exit → Act → World → Prop} {S : World → Prop} {t : Nat}
/-- two operations may come up -/
theorem heldT_pair {i j : Nat} {oi oj : Oper} {f : Nat} {ls : Array Bool} {a : Act} {w : World} (hr : Region.ready md ops ls = [i, j]) (hit : (i != t && j != t) = true) (hoi : ops[i]? = some oi) (hoj : ops[j]? = some oj)
    (h1 : ∀ K' : Act → World → Prop, Shut (∀ a w, S w → (S w → HeldT P md ops Q S t f (ls.setIfInBounds i true) a w) → K' a w) → if Region.wanted oi (yielded ops a.tmps) = true then Oper.wp P oi a w K' Q else K' (a.put oi.dst undef) w)
    (h2 : ∀ K' : Act → World → Prop, Shut (∀ a w, S w → (S w → HeldT P md ops Q S t f (ls.setIfInBounds j true) a w) → K' a w) → if Region.wanted oj (yielded ops a.tmps) = true then Oper.wp P oj a w K' Q else K' (a.put oj.dst undef) w) : HeldT P md ops Q S t (f + 1) ls a w := by
  simp only [Bool.and_eq_true, bne_iff_ne] at hit
  refine ⟨fun e => (by rw [hr] at e; cases e), fun q hq => ?_⟩
  rw [hr] at hq
  rcases List.mem_cons.1 hq with rfl | hq
  · rw [if_neg hit.1]
    exact wpOp_step hoi (fun K' hK => h1 K' (fun a w hS hW => hK a w ⟨hS, hW hS⟩))
  · obtain rfl : q = j := by simpa using hq
    rw [if_neg hit.2]
    exact wpOp_step hoj (fun K' hK => h2 K' (fun a w hS hW => hK a w ⟨hS, hW hS⟩))
end
end Go.Proofs.Ytlodiibmofeikaa
