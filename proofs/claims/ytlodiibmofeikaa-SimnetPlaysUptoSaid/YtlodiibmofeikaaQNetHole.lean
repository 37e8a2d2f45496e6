/- simnet: a net but for one pipe's messages, while these are taken. -/
import Derived.Test.YtlodiibmofeikaaQNetTake
namespace Go.Proofs.Ytlodiibmofeikaa
open Go.RowKit
set_option linter.unusedVariables false
set_option linter.unusedSimpArgs false

theorem KeepC.grp {S : Nat → Prop} {w w' : World} {b g c : Nat} {l : List One} {j lv : Int} (hk : KeepC S w w') (h : GrpAt w b g c l j lv) (hb : ¬ S b) (hg : ¬ S g) : GrpAt w' b g c l j lv :=
  ⟨hk.blk h.str hb, hk.row h.row (fun g' hg' => by cases hg'; exact hg), h.ne⟩
/-- a net; of the pipe i nothing is said -/
structure NetHole (w : World) (col : Nat → Nat) (i : Nat) (nb : Nat) (gd : GD) (delay room : Int) (pv : Value) (P : List PD) (fv : Value) (F : List FD) (used : Nat) (s : StN) : Prop where
  str : Blk w nb (netC gd.b delay pv fv (used : Int) s) 37
  grp : GrpAt w gd.b gd.g gd.c gd.l gd.j gd.lv
  row : w.ownsRow 0 71 1 pv P.length (P.map pipeC)
  fates : w.ownsRow 0 39 2 fv F.length (F.flatMap fateCells)
  pipes : ∀ j p, j ≠ i → P[j]? = some p → PAt (fun x => col x = 5) w (fun x => col x = 6 + j) p.b p.v p.l room
  c1 : col nb = 1
  c2 : col gd.b = 2
  c3 : col gd.g = 3
  c4 : ∀ x, pv.ownBlock = some x → col x = 4
  c5 : ∀ x, fv.ownBlock = some x → col x = 5
  top : ∀ x, w.heap.size ≤ x → col x = 0
section
variable {w w' : World} {col : Nat → Nat} {i : Nat} {nb : Nat} {gd : GD} {delay room : Int} {pv : Value} {P : List PD} {fv : Value} {F : List FD} {used : Nat} {s : StN}
theorem NetAt.hole (h : NetAt w col nb gd delay room pv P fv F used s) (i : Nat) : NetHole w col i nb gd delay room pv P fv F used s :=
  ⟨h.str, h.grp, h.row, h.fates, fun j p _ hp => h.pipes j p hp, h.c1, h.c2, h.c3, h.c4, h.c5, h.top⟩
theorem NetHole.keepC {S : Nat → Prop} (h : NetHole w col i nb gd delay room pv P fv F used s) (hk : KeepC S w w') (hs : ∀ x, col x ≠ 0 → col x ≠ 6 + i → ¬ S x) : NetHole w' col i nb gd delay room pv P fv F used s :=
  ⟨hk.blk h.str (hs _ (by rw [h.c1]; omega) (by rw [h.c1]; omega)), hk.grp h.grp (hs _ (by rw [h.c2]; omega) (by rw [h.c2]; omega)) (hs _ (by rw [h.c3]; omega) (by rw [h.c3]; omega)),
    hk.row h.row (fun g hg => hs _ (by rw [h.c4 g hg]; omega) (by rw [h.c4 g hg]; omega)), hk.row h.fates (fun g hg => hs _ (by rw [h.c5 g hg]; omega) (by rw [h.c5 g hg]; omega)),
    fun j p hj hp => (h.pipes j p hj hp).keepC hk (fun q hq => by have hq : col q = 6 + j ∨ col q = 5 := hq; exact hs q (by omega) (by omega)), h.c1, h.c2, h.c3, h.c4, h.c5, fun x hx => h.top x (Nat.le_trans hk.1 hx)⟩
theorem Keep.toC {S : Nat → Prop} {A B : World} (h : Keep S A B) : KeepC S A B := ⟨h.size, fun k cs T hk hA => (h.block k (Array.getElem?_eq_some_iff.1 hA).1 hk).trans hA⟩
theorem NetHole.keep {S : Nat → Prop} (h : NetHole w col i nb gd delay room pv P fv F used s) (hk : Keep S w w') (hs : ∀ x, col x ≠ 0 → col x ≠ 6 + i → ¬ S x) : NetHole w' col i nb gd delay room pv P fv F used s := h.keepC hk.toC hs
theorem NetHole.turn {q : Nat} {o o' : Obj} (h : NetHole w col i nb gd delay room pv P fv F used s) (ho : w.heap[q]? = some o) (hc : o.isCells = false) : NetHole (w.putObj q o') col i nb gd delay room pv P fv F used s :=
  h.keepC (keepC_turn ho hc (fun _ => False)) (fun _ _ _ => id)
/-- the pipe's messages are told again -/
theorem NetHole.fill {p : PD} {v' : Value} {l' : List Msg} (h : NetHole w col i nb gd delay room pv P fv F used s) (hp : P[i]? = some p) (hq : PAt (fun x => col x = 5) w (fun q => col q = 6 + i) p.b v' l' room) : NetAt w col nb gd delay room pv (P.set i ⟨p.b, v', l'⟩) fv F used s := by
  have hlt : i < P.length := (List.getElem?_eq_some_iff.1 hp).1
  have hm : (P.set i ⟨p.b, v', l'⟩).map pipeC = P.map pipeC := by
    rw [List.map_set]
    refine List.ext_getElem? fun j => ?_
    rw [List.getElem?_set]
    split
    · rename_i e
      subst e
      rw [List.getElem?_map, hp]
      simp [hlt, pipeC]
    · rfl
  refine ⟨h.str, h.grp, by rw [List.length_set, hm]; exact h.row, h.fates, fun j q hj => ?_, h.c1, h.c2, h.c3, h.c4, h.c5, h.top⟩
  by_cases e : i = j
  · subst e
    rw [List.getElem?_set_self hlt] at hj
    cases hj
    exact hq
  · rw [List.getElem?_set_ne e] at hj
    exact h.pipes j q (fun x => e x.symm) hj
/-- a deferred row that is empty -/
def Dfd (D : Nat) (W : World) : Prop := W.heap[D]? = some (.deferred (some []))
theorem Dfd.turn {D q : Nat} {W : World} {o' : Obj} (h : Dfd D W) (hq : D < q) : Dfd D (W.putObj q o') := (World.putObj_heap_other (by omega)).trans h
theorem Dfd.lt {D : Nat} {W : World} (h : Dfd D W) : D < W.heap.size := (Array.getElem?_eq_some_iff.1 h).1
theorem Dfd.keep {S : Nat → Prop} {D : Nat} {W W' : World} (h : Dfd D W) (hk : Keep S W W') (hs : ¬ S D) : Dfd D W' := (hk.block D h.lt hs).trans h
theorem Dfd.others {D : Nat} {W W' : World} (h : Dfd D W) (hk : KeepsOthers W W') : Dfd D W' := hk.same _ _ h rfl
end
end Go.Proofs.Ytlodiibmofeikaa
