/- simnet: a net in memory; what reads it. -/
import Derived.Test.YtlodiibmofeikaaPipeTold
import Derived.Test.YtlodiibmofeikaaGroup3
import Derived.Test.YtlodiibmofeikaaCloneFate
namespace Go.Proofs.Ytlodiibmofeikaa
open Go.RowKit
set_option linter.unusedVariables false
set_option linter.unusedSimpArgs false

structure FD where
  kind : Int
  n : Int
def fateCells (o : FD) : List Value := [.int .i64 o.kind, .int .i64 o.n]
theorem fateCells_len (o : FD) : (fateCells o).length = 2 := rfl
structure StN where
  sent : Int
  lost : Int
  dropped : Int
  doubled : Int
  late : Int
  turned : Int
def stN0 : StN := ⟨0, 0, 0, 0, 0, 0⟩
structure GD where
  b : Nat
  g : Nat
  c : Nat
  l : List One
  j : Int
  lv : Int
structure PD where
  b : Nat
  v : Value
  l : List Msg
def pipeC (p : PD) : Value := .pointer (some ⟨p.b, 0, none⟩)
def netC (gb : Nat) (delay : Int) (pv fv : Value) (used : Int) (s : StN) : Array Value :=
  #[.pointer (some ⟨gb, 0, none⟩), .int .i64 delay, pv, fv, .int .i64 used, .int .i64 s.sent, .int .i64 s.lost, .int .i64 s.dropped, .int .i64 s.doubled, .int .i64 s.late, .int .i64 s.turned]
/-- a net; each of its blocks has a colour, so that no two of its parts share one -/
structure NetAt (w : World) (col : Nat → Nat) (nb : Nat) (gd : GD) (delay room : Int) (pv : Value) (P : List PD) (fv : Value) (F : List FD) (used : Nat) (s : StN) : Prop where
  str : Blk w nb (netC gd.b delay pv fv (used : Int) s) 37
  grp : GrpAt w gd.b gd.g gd.c gd.l gd.j gd.lv
  row : w.ownsRow 0 71 1 pv P.length (P.map pipeC)
  fates : w.ownsRow 0 39 2 fv F.length (F.flatMap fateCells)
  pipes : ∀ i p, P[i]? = some p → PAt NoR w (fun x => col x = 6 + i) p.b p.v p.l room
  c1 : col nb = 1
  c2 : col gd.b = 2
  c3 : col gd.g = 3
  c4 : ∀ x, pv.ownBlock = some x → col x = 4
  c5 : ∀ x, fv.ownBlock = some x → col x = 5
  top : ∀ x, w.heap.size ≤ x → col x = 0
theorem NetAt.keep {S : Nat → Prop} {w w' : World} {col : Nat → Nat} {nb : Nat} {gd : GD} {delay room : Int} {pv : Value} {P : List PD} {fv : Value} {F : List FD} {used : Nat} {s : StN}
    (h : NetAt w col nb gd delay room pv P fv F used s) (hk : Keep S w w') (hs : ∀ x, col x ≠ 0 → ¬ S x) : NetAt w' col nb gd delay room pv P fv F used s :=
  ⟨h.str.keep hk (hs _ (by rw [h.c1]; decide)), h.grp.keep hk (hs _ (by rw [h.c2]; decide)) (hs _ (by rw [h.c3]; decide)), ownsRow_keep h.row hk (fun g hg => hs _ (by rw [h.c4 g hg]; decide)),
    ownsRow_keep h.fates hk (fun g hg => hs _ (by rw [h.c5 g hg]; decide)), fun i p hp => (h.pipes i p hp).keep hk (fun q hq => hs q (by have := hq.elim id (fun x => x.elim); omega)), h.c1, h.c2, h.c3, h.c4, h.c5,
    fun x hx => h.top x (Nat.le_trans hk.size hx)⟩
theorem NetAt.below {w w' : World} {col : Nat → Nat} {nb : Nat} {gd : GD} {delay room : Int} {pv : Value} {P : List PD} {fv : Value} {F : List FD} {used : Nat} {s : StN}
    (h : NetAt w col nb gd delay room pv P fv F used s) (hb : Below w.heap.size w w') : NetAt w' col nb gd delay room pv P fv F used s := h.keep (Keep.none hb) (fun _ _ => id)
theorem blk11 {w : World} {b : Nat} {v0 v1 v2 v3 v4 v5 v6 v7 v8 v9 v10 : Value} {T : TypeId} (h : Blk w b #[v0, v1, v2, v3, v4, v5, v6, v7, v8, v9, v10] T) :
    w.cell? ⟨b, 0, none⟩ = some v0 ∧ w.cell? ⟨b, 1, none⟩ = some v1 ∧ w.cell? ⟨b, 2, none⟩ = some v2 ∧ w.cell? ⟨b, 3, none⟩ = some v3 ∧ w.cell? ⟨b, 4, none⟩ = some v4 ∧ w.cell? ⟨b, 5, none⟩ = some v5 ∧ w.cell? ⟨b, 6, none⟩ = some v6 ∧
      w.cell? ⟨b, 7, none⟩ = some v7 ∧ w.cell? ⟨b, 8, none⟩ = some v8 ∧ w.cell? ⟨b, 9, none⟩ = some v9 ∧ w.cell? ⟨b, 10, none⟩ = some v10 :=
  ⟨h.cell 0 rfl, h.cell 1 rfl, h.cell 2 rfl, h.cell 3 rfl, h.cell 4 rfl, h.cell 5 rfl, h.cell 6 rfl, h.cell 7 rfl, h.cell 8 rfl, h.cell 9 rfl, h.cell 10 rfl⟩
section
variable {w : World} {col : Nat → Nat} {nb : Nat} {gd : GD} {delay room : Int} {pv : Value} {P : List PD} {fv : Value} {F : List FD} {used : Nat} {s : StN}
theorem netUsed_any (h : NetAt w col nb gd delay room pv P fv F used s) :
    Calls Try.prog 14 #[.pointer (some ⟨nb, 0, none⟩)] w fun e w' => e = .returned (.int .i64 (used : Int)) ∧ w = w' := by
  obtain ⟨n0, n1, n2, n3, n4, -⟩ := blk11 h.str
  clear h
  go_enter Try.func14, Try.ntmps14
  go_wp2
  go_ret
  exact ⟨rfl, rfl⟩
set_option maxRecDepth 100000 in
theorem netStats_any (h : NetAt w col nb gd delay room pv P fv F used s) :
    Calls Try.prog 12 #[.pointer (some ⟨nb, 0, none⟩)] w fun e w' => e = .returned (.agg #[.int .i64 s.sent, .int .i64 s.lost, .int .i64 s.dropped, .int .i64 s.doubled, .int .i64 s.late, .int .i64 s.turned]) ∧ Below w.heap.size w w' := by
  obtain ⟨n0, n1, n2, n3, n4, n5, n6, n7, n8, n9, n10⟩ := blk11 h.str
  have hb0 : ∀ o, Below w.heap.size w (w.alloc o) := fun o => (Below.refl _ w).alloc (Nat.le_refl _) o
  have HB0 := Lib.hid hb0
  have hlt := h.str.lt
  clear h hb0
  go_enter Try.func12, Try.ntmps12
  go_wp2
  refine bodyPost_ret (v := .agg #[.int .i64 s.sent, .int .i64 s.lost, .int .i64 s.dropped, .int .i64 s.doubled, .int .i64 s.late, .int .i64 s.turned]) ?_ rfl ⟨rfl, HB0.out _⟩
  simp [results, Try.results12, go_sem]
theorem net_has (h : NetAt w col nb gd delay room pv P fv F used s) (r : Int) :
    Calls Try.prog 30 #[.pointer (some ⟨nb, 0, none⟩), .int .i64 r] w fun e w' => e = .returned (.bool (hasB gd.l.length r)) ∧ w = w' := by
  obtain ⟨n0, -⟩ := blk11 h.str
  have HC := Lib.hid (count_any gd.b gd.g gd.c gd.l gd.j gd.lv w h.grp)
  clear h
  rcases (by omega : r < 0 ∨ (0 ≤ r ∧ r < gd.l.length) ∨ (0 ≤ r ∧ gd.l.length ≤ r)) with g | ⟨g, g'⟩ | ⟨g, g'⟩
  · have hh : hasB gd.l.length r = false := decide_eq_false (by omega)
    rw [hh]
    go_enter Try.func30, Try.ntmps30
    go_wp2
    go_ret
    exact ⟨rfl, rfl⟩
  all_goals
    first
      | (have hh : hasB gd.l.length r = true := decide_eq_true ⟨g, g'⟩; rw [hh])
      | (have hh : hasB gd.l.length r = false := decide_eq_false (by omega); rw [hh])
    clear hh
    go_enter Try.func30, Try.ntmps30
    go_wp2_with fail
    refine HC.out.mono ?_
    rintro e w2 ⟨rfl, rfl⟩
    go_wp2
    go_ret
    exact ⟨by simp; try omega, rfl⟩
end
def setc (col : Nat → Nat) (lo hi c : Nat) : Nat → Nat := fun x => if lo ≤ x ∧ x < hi then c else col x
theorem setc_in {col : Nat → Nat} {lo hi c x : Nat} (h : lo ≤ x) (h2 : x < hi) : setc col lo hi c x = c := if_pos ⟨h, h2⟩
theorem setc_lo {col : Nat → Nat} {lo hi c x : Nat} (h : x < lo) : setc col lo hi c x = col x := if_neg (by omega)
theorem setc_hi {col : Nat → Nat} {lo hi c x : Nat} (h : hi ≤ x) : setc col lo hi c x = col x := if_neg (by omega)
section
variable {w w' : World} {col : Nat → Nat} {nb : Nat} {gd : GD} {delay room : Int} {pv : Value} {P : List PD} {fv : Value} {F : List FD} {used : Nat} {s : StN}
theorem NetAt.lt (h : NetAt w col nb gd delay room pv P fv F used s) {x : Nat} (hx : col x ≠ 0) : x < w.heap.size := by
  rcases Nat.lt_or_ge x w.heap.size with g | g
  · exact g
  · exact absurd (h.top x g) hx
/-- one cell of the net is set -/
theorem NetAt.set {used' : Nat} {s' : StN} {i : Nat} {u : Value} (h : NetAt w col nb gd delay room pv P fv F used s) (e : (netC gd.b delay pv fv used s).setIfInBounds i u = netC gd.b delay pv fv used' s') :
    NetAt (w.setCell ⟨nb, i, none⟩ u) col nb gd delay room pv P fv F used' s' := by
  have hk : Keep (fun q => q = nb) w (w.setCell ⟨nb, i, none⟩ u) := (Keep.refl (fun q => q = nb) w).setCell (p := ⟨nb, i, none⟩) (.inl rfl) _
  have hn : ∀ x, col x ≠ 1 → ¬ x = nb := fun x hx e => hx (by rw [e]; exact h.c1)
  exact ⟨h.str.set' e, h.grp.keep hk (hn _ (by rw [h.c2]; decide)) (hn _ (by rw [h.c3]; decide)), ownsRow_keep h.row hk (fun g hg => hn _ (by rw [h.c4 g hg]; decide)),
    ownsRow_keep h.fates hk (fun g hg => hn _ (by rw [h.c5 g hg]; decide)), fun i p hp => (h.pipes i p hp).keep hk (fun q hq => hn q (by have := hq.elim id (fun x => x.elim); omega)), h.c1, h.c2, h.c3, h.c4, h.c5,
    fun x hx => h.top x (by simpa using hx)⟩
/-- a pipe's messages have changed -/
theorem NetAt.pipe {i : Nat} {p : PD} {v' : Value} {l' : List Msg} (h : NetAt w col nb gd delay room pv P fv F used s) (hp : P[i]? = some p) (hk : Keep (fun q => col q = 6 + i) w w')
    (hq : PAt NoR w' (fun q => col q = 6 + i ∨ w.heap.size ≤ q) p.b v' l' room) : NetAt w' (setc col w.heap.size w'.heap.size (6 + i)) nb gd delay room pv (P.set i ⟨p.b, v', l'⟩) fv F used s := by
  have hn : ∀ x, col x ≠ 6 + i → ¬ col x = 6 + i := fun x hx => hx
  have hc : ∀ {x : Nat}, col x ≠ 0 → setc col w.heap.size w'.heap.size (6 + i) x = col x := fun {x} hx => setc_lo (h.lt hx)
  have c0 : ∀ {x c : Nat}, col x = c → c ≠ 0 → setc col w.heap.size w'.heap.size (6 + i) x = c := fun {x c} hx h0 => by rw [hc (by rw [hx]; exact h0), hx]
  have hm : (P.set i ⟨p.b, v', l'⟩).map pipeC = P.map pipeC := by
    rw [List.map_set]
    refine List.ext_getElem? fun j => ?_
    rw [List.getElem?_set]
    split
    · rename_i e
      subst e
      rw [List.getElem?_map, hp]
      have hlt : i < P.length := (List.getElem?_eq_some_iff.1 hp).1
      simp [hlt, pipeC]
    · rfl
  refine ⟨h.str.keep hk (by rw [h.c1]; omega), h.grp.keep hk (by rw [h.c2]; omega) (by rw [h.c3]; omega), ?_, ownsRow_keep h.fates hk (fun g hg => by rw [h.c5 g hg]; omega), fun j q hj => ?_, c0 h.c1 (by decide), c0 h.c2 (by decide), c0 h.c3 (by decide), fun x hx => c0 (h.c4 x hx) (by decide), fun x hx => c0 (h.c5 x hx) (by decide), fun x hx => ?_⟩
  · rw [List.length_set, hm]
    exact ownsRow_keep h.row hk (fun g hg => by rw [h.c4 g hg]; omega)
  · by_cases e : i = j
    · subst e
      have hlt : i < P.length := (List.getElem?_eq_some_iff.1 hp).1
      rw [List.getElem?_set_self hlt] at hj
      cases hj
      exact hq.mono (fun x hx hl => hx.elim (fun e => c0 e (by omega)) (fun g => setc_in g hl))
    · rw [List.getElem?_set_ne e] at hj
      exact ((h.pipes j q hj).keep hk (fun x hx => by have := hx.elim id (fun x => x.elim); omega)).mono (fun x hx _ => c0 hx (by omega))
  · have h1 := hk.size
    rw [setc_hi hx]
    exact h.top x (by omega)
/-- one more pipe -/
theorem NetAt.more {w2 : World} {b : Nat} {pv' : Value} (h : NetAt w col nb gd delay room pv P fv F used s) (hb : Below w.heap.size w w') (hq : PAt NoR w' (fun q => w.heap.size ≤ q) b (.slice none 0 0) [] room)
    (hk : Keep (fun q => pv.ownBlock = some q) w' w2) (ho : w2.ownsRow 0 71 1 pv' (P.length + 1) (P.map pipeC ++ [.pointer (some ⟨b, 0, none⟩)])) (hn : ∀ g, pv'.ownBlock = some g → pv.ownBlock = some g ∨ w'.heap.size ≤ g) :
    NetAt (w2.setCell ⟨nb, 2, none⟩ pv') (setc (setc col w.heap.size w'.heap.size (6 + P.length)) w'.heap.size w2.heap.size 4) nb gd delay room pv' (P ++ [⟨b, .slice none 0 0, []⟩]) fv F used s := by
  have h1 := h.below hb
  have hs1 := hb.size
  have hs2 := hk.size
  have hk2 : Keep (fun q => q = nb) w2 (w2.setCell ⟨nb, 2, none⟩ pv') := (Keep.refl (fun q => q = nb) w2).setCell (p := ⟨nb, 2, none⟩) (.inl rfl) _
  have c0 : ∀ {x c : Nat}, col x = c → c ≠ 0 → setc (setc col w.heap.size w'.heap.size (6 + P.length)) w'.heap.size w2.heap.size 4 x = c := fun {x c} hx h0 => by
    have hl := h.lt (x := x) (by rw [hx]; exact h0)
    rw [setc_lo (by omega), setc_lo hl, hx]
  have n4 : ∀ x, col x ≠ 4 → ¬ pv.ownBlock = some x := fun x hx e => hx (h.c4 x e)
  have n1 : ∀ x, col x ≠ 1 → ¬ x = nb := fun x hx e => hx (by rw [e]; exact h.c1)
  have hpn : ∀ g, pv'.ownBlock = some g → ¬ g = nb := fun g hg e => by
    rcases hn g hg with x | x
    · exact n1 g (by rw [h.c4 g x]; decide) e
    · have := h.str.lt; omega
  refine ⟨(h1.str.keep hk (n4 _ (by rw [h.c1]; decide))).set' rfl, (h1.grp.keep hk (n4 _ (by rw [h.c2]; decide)) (n4 _ (by rw [h.c3]; decide))).keep hk2 (n1 _ (by rw [h.c2]; decide)) (n1 _ (by rw [h.c3]; decide)), ?_,
    ownsRow_keep (ownsRow_keep h1.fates hk (fun g hg => n4 _ (by rw [h.c5 g hg]; decide))) hk2 (fun g hg => n1 _ (by rw [h.c5 g hg]; decide)), fun j q hj => ?_, c0 h.c1 (by decide), c0 h.c2 (by decide), c0 h.c3 (by decide), fun x hx => ?_, fun x hx => c0 (h.c5 x hx) (by decide), fun x hx => ?_⟩
  · rw [List.length_append, List.map_append]
    exact ownsRow_keep ho hk2 (fun g hg => hpn g hg)
  · rcases Nat.lt_or_ge j P.length with g | g
    · rw [List.getElem?_append_left g] at hj
      exact (((h1.pipes j q hj).keep hk (fun x hx => n4 _ (by have := hx.elim id (fun x => x.elim); omega))).keep hk2 (fun x hx => n1 _ (by have := hx.elim id (fun x => x.elim); omega))).mono (fun x hx _ => c0 hx (by omega))
    · rw [List.getElem?_append_right g] at hj
      obtain rfl : j = P.length := by
        have := (List.getElem?_eq_some_iff.1 hj).1
        simp at this
        omega
      simp at hj
      subst hj
      have hq1 : PAt NoR w' (fun q => w.heap.size ≤ q ∧ q < w'.heap.size) b (.slice none 0 0) [] room := hq.mono (fun x hx hl => ⟨hx, hl⟩)
      refine ((hq1.keep hk (fun x hx e => ?_)).keep hk2 (fun x hx e => ?_)).mono (fun x hx _ => ?_)
      · have h2 := hx.elim id (fun x => x.elim)
        have h3 := h.lt (x := x) (by rw [h.c4 x e]; decide)
        omega
      · have h2 := hx.elim id (fun x => x.elim)
        have := h.str.lt
        omega
      · rw [setc_lo hx.2, setc_in hx.1 hx.2]
  · rcases hn x hx with g | g
    · exact c0 (h.c4 x g) (by decide)
    · exact setc_in g (ho.lt x hx).2
  · have h5 : w2.heap.size ≤ x := by simpa using hx
    rw [setc_hi h5, setc_hi (by omega)]
    exact h.top x (by omega)
end
end Go.Proofs.Ytlodiibmofeikaa
