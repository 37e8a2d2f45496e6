/- simnet: a net and the model that tell the same. -/
import Derived.Test.YtlodiibmofeikaaQNetMTake
import Derived.Test.YtlodiibmofeikaaQNetMTakeUp
import Derived.Test.YtlodiibmofeikaaQGroupPInv
namespace Go.Proofs.Ytlodiibmofeikaa
open Go.RowKit Go.Shelf
set_option linter.unusedVariables false
set_option linter.unusedSimpArgs false

theorem layL_rel {room due : Int} {bs : List Int} {l l' : List Msg} {s s' : StN} {X : List RM} (h : LayL room due bs l s l' s') (hx : l.map toR = sorted X) (hd : 0 ≤ due ∧ due ≤ 2199023255552) (hb : bs.length ≤ 320) :
    l'.map toR = sorted (layX room X ⟨due, strOfNums bs⟩ s).1 ∧ s' = (layX room X ⟨due, strOfNums bs⟩ s).2 := by
  have hlen : l.length = X.length := by have h1 := congrArg List.length hx; rw [List.length_map, sorted_len] at h1; exact h1
  have hp : putE l room due bs.length = if room ≤ (X.length : Int) then 15 else 0 := by
    unfold putE
    rw [if_neg (by omega), hlen]
  unfold layX
  rcases h with ⟨h1, rfl, rfl⟩ | ⟨h1, rfl, m, rfl, h2, h3⟩
  · rw [hp] at h1
    by_cases g : room ≤ (X.length : Int)
    · rw [if_pos g]; exact ⟨hx, rfl⟩
    · rw [if_neg g] at h1; exact absurd rfl h1
  · rw [hp] at h1
    by_cases g : room ≤ (X.length : Int)
    · rw [if_pos g] at h1; exact absurd h1 (by decide)
    · rw [if_neg g]
      refine ⟨?_, rfl⟩
      have h4 := put_sorted (m := m) hx
      rw [h2] at h4
      rw [h4]
      unfold toR
      rw [h2, h3]
theorem giveL_rel {room due : Int} {f : FD} {bs : List Int} {l l' : List Msg} {s s' : StN} {X : List RM} (h : GiveL room f due bs l s l' s') (hx : l.map toR = sorted X) (hd : 0 ≤ due ∧ due ≤ 1099511628000) (hb : bs.length ≤ 320) :
    l'.map toR = sorted (giveX room due bs f X s).1 ∧ s' = (giveX room due bs f X s).2 := by
  unfold giveX
  have hc := clamp_range f.n
  rcases h with ⟨k, rfl, rfl⟩ | ⟨k, l1, s1, h1, h2⟩ | ⟨k, h⟩ | ⟨k, h⟩ | ⟨k, h⟩
  · rw [if_pos k]; exact ⟨hx, rfl⟩
  · rw [if_neg (by omega), if_pos k]
    obtain ⟨a, b⟩ := layL_rel h1 hx (by omega) hb
    subst b
    exact layL_rel h2 a (by omega) hb
  · rw [if_neg (by omega), if_neg (by omega), if_pos k]
    exact layL_rel h hx (by omega) hb
  · rw [if_neg (by omega), if_neg (by omega), if_neg (by omega), if_pos k]
    exact layL_rel h hx (by omega) (by rw [turnI_len]; exact hb)
  · rw [if_neg (by omega), if_neg (by omega), if_neg (by omega), if_neg (by omega)]
    exact layL_rel h hx (by omega) hb
/-- a configuration with few receivers -/
structure Cf (n : Nat) (delay room j lv : Int) : Prop where
  n : 1 ≤ n ∧ n ≤ 8
  delay : 0 ≤ delay ∧ delay ≤ 64
  room : 1 ≤ room ∧ room ≤ 256
  j : 0 ≤ j ∧ j ≤ 64
  lv : 0 ≤ lv ∧ lv ≤ 64
/-- the pipes and the lists tell the same -/
def Same (room : Int) (P : List PD) (Xs : List (List RM)) : Prop := ∀ (i : Nat) (pd : PD) (X : List RM), P[i]? = some pd → Xs[i]? = some X → pd.l.map toR = sorted X ∧ (pd.l.length : Int) ≤ room
/-- a net and the model, behind k calls, the last at the tick t -/
structure NM (w : World) (col : Nat → Nat) (nb : Nat) (n : Nat) (delay room j lv : Int) (F : List FD) (m : MD) (k : Nat) (t : Int) : Prop where
  ex : ∃ gd pv P fv asks vs Xs, NetAt w col nb gd delay room pv P fv F m.used m.s ∧ MdAt w (fun q => col q = 0) m asks vs Xs F ∧ PInv n j lv gd.l asks k ∧ gd.j = j ∧ gd.lv = lv ∧ P.length = n + 1 ∧ Xs.length = n + 1 ∧ Same room P Xs ∧ (∀ a ∈ asks, a.now ≤ t)
  cfg : m.rc = n ∧ m.delay = delay ∧ m.room = room ∧ m.j = j ∧ m.lv = lv
  cf : Cf n delay room j lv
  fl : F.length ≤ 200
  used : m.used ≤ 9 * k
  st : StB (27 * (k : Int)) m.s
  kb : k ≤ 1000
  tb : 0 ≤ t ∧ t ≤ 100 * (k : Int)
  fvb : ∀ g, m.fv.ownBlock = some g → 0 < F.length → g < nb
theorem NM.below {w w' : World} {col : Nat → Nat} {nb n : Nat} {delay room j lv : Int} {F : List FD} {m : MD} {k : Nat} {t : Int} (h : NM w col nb n delay room j lv F m k t) (hb : Below w.heap.size w w') : NM w' col nb n delay room j lv F m k t := by
  obtain ⟨⟨gd, pv, P, fv, asks, vs, Xs, a, b, c⟩, d1, d2, d3, d4, d5, d6, d7, d8⟩ := h
  exact ⟨⟨gd, pv, P, fv, asks, vs, Xs, a.below hb, b.below hb, c⟩, d1, d2, d3, d4, d5, d6, d7, d8⟩
/-- what a step leaves -/
structure SR (w w' : World) (col : Nat → Nat) (nb n : Nat) (delay room j lv : Int) (F : List FD) (m' : MD) (k : Nat) (t : Int) : Prop where
  ex : ∃ col', NM w' col' nb n delay room j lv F m' k t ∧ (∀ x, x < w.heap.size → col' x = col x)
  kp : Keep (fun q => col q ≠ 0 ∧ col q ≠ 5) w w'
/-- nothing was changed but the tick -/
theorem NM.stay {w : World} {col : Nat → Nat} {nb n : Nat} {delay room j lv : Int} {F : List FD} {m : MD} {k : Nat} {t t' : Int} (h : NM w col nb n delay room j lv F m k t) (hk : k < 1000) (ht : t ≤ t' ∧ t' ≤ t + 100) : NM w col nb n delay room j lv F m (k + 1) t' := by
  obtain ⟨⟨gd, pv, P, fv, asks, vs, Xs, a, b, c, d1, d2, d3, d4, d5, d6⟩, e, f, g, u, s, kk, tt, fb⟩ := h
  refine ⟨⟨gd, pv, P, fv, asks, vs, Xs, a, b, c.stay, d1, d2, d3, d4, d5, fun x hx => Int.le_trans (d6 x hx) ht.1⟩, e, f, g, by omega, s.mono (by omega), by omega, ⟨by omega, by omega⟩, fb⟩
end Go.Proofs.Ytlodiibmofeikaa
