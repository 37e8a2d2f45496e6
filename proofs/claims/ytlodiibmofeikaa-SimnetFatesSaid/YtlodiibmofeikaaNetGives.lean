/- simnet: lay and give, whatever the fate. -/
import Derived.Test.YtlodiibmofeikaaNetGive
import Derived.Test.YtlodiibmofeikaaNetTurn
import Derived.Lib.MinMax
namespace Go.Proofs.Ytlodiibmofeikaa
open Go.RowKit
set_option linter.unusedVariables false
set_option linter.unusedSimpArgs false

/-- one copy is laid -/
def LayL (room due : Int) (bs : List Int) (l : List Msg) (s : StN) (l' : List Msg) (s' : StN) : Prop :=
  (putE l room due bs.length ≠ 0 ∧ l' = l ∧ s' = s.drop) ∨ (putE l room due bs.length = 0 ∧ s' = s ∧ ∃ m, l' = put1 l (dueN l due) m ∧ m.due = due ∧ m.bs = bs)
/-- the pipe i has changed, and the counts -/
structure NetR (w w' : World) (col : Nat → Nat) (nb : Nat) (gd : GD) (delay room : Int) (pv : Value) (P : List PD) (fv : Value) (F : List FD) (used : Nat) (i : Nat) (p : PD) (Q : List Msg → StN → Prop) : Prop where
  ex : ∃ col' v' l' s', NetAt w' col' nb gd delay room pv (P.set i ⟨p.b, v', l'⟩) fv F used s' ∧ (∀ x, col' x ≠ 0 → col x ≠ 0 ∨ w.heap.size ≤ x) ∧ Q l' s'
  kp : Keep (fun q => col q ≠ 0) w w'
section
variable {w w3 w' : World} {col : Nat → Nat} {nb : Nat} {gd : GD} {delay room : Int} {pv : Value} {P : List PD} {fv : Value} {F : List FD} {used : Nat} {s : StN} {i : Nat} {p : PD} {Q Q' : List Msg → StN → Prop}
theorem NetR.from (hk : Keep (fun q => col q ≠ 0) w w3) (h : NetR w3 w' col nb gd delay room pv P fv F used i p Q) : NetR w w' col nb gd delay room pv P fv F used i p Q := by
  obtain ⟨⟨col', v', l', s', h1, h2, h3⟩, h4⟩ := h
  exact ⟨⟨col', v', l', s', h1, fun x hx => (h2 x hx).imp id (fun y => Nat.le_trans hk.size y), h3⟩, hk.trans h4 (fun q _ y => y)⟩
theorem NetR.mono (h : NetR w w' col nb gd delay room pv P fv F used i p Q) (hq : ∀ l s, Q l s → Q' l s) : NetR w w' col nb gd delay room pv P fv F used i p Q' := by
  obtain ⟨⟨col', v', l', s', h1, h2, h3⟩, h4⟩ := h
  exact ⟨⟨col', v', l', s', h1, h2, hq _ _ h3⟩, h4⟩
/-- a second one behind the first -/
theorem NetR.then {col3 : Nat → Nat} {v3 : Value} {l3 : List Msg} (hk : Keep (fun q => col q ≠ 0) w w3) (hc : ∀ x, col3 x ≠ 0 → col x ≠ 0 ∨ w.heap.size ≤ x) (h : NetR w3 w' col3 nb gd delay room pv (P.set i ⟨p.b, v3, l3⟩) fv F used i ⟨p.b, v3, l3⟩ Q) : NetR w w' col nb gd delay room pv P fv F used i p Q := by
  obtain ⟨⟨col', v', l', s', h1, h2, h3⟩, h4⟩ := h
  rw [List.set_set] at h1
  exact ⟨⟨col', v', l', s', h1, fun x hx => (h2 x hx).elim (hc x) (fun y => .inr (Nat.le_trans hk.size y)), h3⟩, hk.trans h4 (fun q hq y => (hc q y).elim id (fun z => absurd hq (by omega)))⟩
set_option maxRecDepth 100000 in
theorem lay_l (h : NetAt w col nb gd delay room pv P fv F used s) (hp : P[i]? = some p) (due : Int) (A : Option Addr) (c : Nat) (bs : List Int) (hx : Reads w 1 (.slice A bs.length c) bs.length (u8s bs)) (hr : 0 ≤ room ∧ room ≤ 1000) (hl : p.l.length ≤ 100000) (hs : 0 ≤ s.dropped ∧ s.dropped ≤ 1000000000) :
    Calls Try.prog 43 #[.pointer (some ⟨nb, 0, none⟩), .pointer (some ⟨p.b, 0, none⟩), .slice A bs.length c, .int .i64 due] w fun e w' => (∃ v, e = .returned v) ∧ NetR w w' col nb gd delay room pv P fv F used i p (LayL room due bs p.l s) := by
  have H := Lib.hid h
  have HP := Lib.hid hp
  have hput := put_any p.b p.v p.l room due A bs.length c bs w (h.pipes i p hp) hl hr hx rfl
  have hgen : ∀ w2, PutR NoR w w2 (fun x => col x = 6 + i) p.b p.l room due bs.length bs → Keep (fun q => col q ≠ 0) w w2 ∧ ∃ col' v' l', NetAt w2 col' nb gd delay room pv (P.set i ⟨p.b, v', l'⟩) fv F used s ∧ (∀ x, col' x ≠ 0 → col x ≠ 0 ∨ w.heap.size ≤ x) ∧
      ((putE p.l room due bs.length ≠ 0 ∧ l' = p.l) ∨ (putE p.l room due bs.length = 0 ∧ ∃ m, l' = put1 p.l (dueN p.l due) m ∧ m.due = due ∧ m.bs = bs)) := fun w2 r => by
    obtain ⟨⟨v', l', h1, h2⟩, hk⟩ := r
    refine ⟨hk.mono (fun q _ e => by omega), _, v', l', h.pipe hp hk h1, fun x hx => ?_, h2⟩
    unfold setc at hx
    split at hx
    · exact .inr (by omega)
    · exact .inl hx
  have HG := Lib.hid hgen
  clear hgen
  by_cases he : putE p.l room due bs.length = 0
  · rw [he] at hput
    have HPU := Lib.hid hput
    have HE := Lib.hid he
    clear h hp hx hput he
    go_enter Try.func43, Try.ntmps43
    go_wp2_with fail
    refine HPU.out.mono ?_
    rintro e w2 ⟨rfl, r2⟩
    have HR := Lib.hid r2
    clear r2
    go_wp2
    refine bodyPost_end (v := .tuple #[]) (by simp [results, Try.results43, go_sem]) rfl ⟨⟨_, rfl⟩, ?_⟩
    obtain ⟨hk, col', v', l', h1, h2, h3⟩ := HG.out w2 HR.out
    rcases h3 with ⟨h3, -⟩ | ⟨h3, h4⟩
    · exact absurd HE.out h3
    · exact ⟨⟨col', v', l', s, h1, h2, .inr ⟨HE.out, rfl, h4⟩⟩, hk⟩
  · have hcs : putE p.l room due bs.length = 11 ∨ putE p.l room due bs.length = 15 := by
      unfold putE at he ⊢
      split
      · exact .inl rfl
      · split
        · exact .inr rfl
        · rename_i g1 g2
          rw [if_neg g1, if_neg g2] at he
          exact absurd rfl he
    have HE := Lib.hid he
    clear he
    rcases hcs with e | e
    all_goals
      rw [e] at hput
      have HPU := Lib.hid hput
      clear h hp hx hput e
      go_enter Try.func43, Try.ntmps43
      go_wp2_with fail
      refine HPU.out.mono ?_
      rintro e w2 ⟨rfl, r2⟩
      obtain ⟨hk, col', v', l', h1, h2, h3⟩ := HG.out w2 r2
      have HK := Lib.hid hk
      have HN := Lib.hid h1
      have H2 := Lib.hid h2
      have H3 := Lib.hid h3
      obtain ⟨n0, n1, n2, n3, n4, n5, n6, n7, n8, n9, n10⟩ := blk11 h1.str
      have f7 := h1.str.frozen 7
      clear r2 hk h1 h2 h3
      go_wp2
      refine bodyPost_end (v := .tuple #[]) (by simp [results, Try.results43, go_sem]) rfl ⟨⟨_, rfl⟩, ?_⟩
      have hset := HN.out.set (s' := s.drop) (used' := used) (i := 7) (u := .int .i64 (s.dropped + 1)) rfl
      have hk2 : Keep (fun q => col q ≠ 0) w (w2.setCell ⟨nb, 7, none⟩ (.int .i64 (s.dropped + 1))) := HK.out.setCell (p := ⟨nb, 7, none⟩) (.inl (by rw [H.out.c1]; decide)) _
      rcases H3.out with ⟨h3, h4⟩ | ⟨h3, -⟩
      · exact ⟨⟨col', v', l', s.drop, hset, H2.out, .inl ⟨h3, h4, rfl⟩⟩, hk2⟩
      · exact absurd h3 HE.out
def StN.lose (s : StN) : StN := { s with lost := s.lost + 1 }
def StN.dbl (s : StN) : StN := { s with doubled := s.doubled + 1 }
def StN.lat (s : StN) : StN := { s with late := s.late + 1 }
def StN.trn (s : StN) : StN := { s with turned := s.turned + 1 }
def clamp (n : Int) : Int := min (max n 0) 64
theorem clamp_range (n : Int) : 0 ≤ clamp n ∧ clamp n ≤ 64 := by unfold clamp; omega
/-- a message to one -/
def GiveL (room : Int) (f : FD) (due : Int) (bs : List Int) (l : List Msg) (s : StN) (l' : List Msg) (s' : StN) : Prop :=
  (f.kind = 1 ∧ l' = l ∧ s' = s.send.lose) ∨ (f.kind = 2 ∧ ∃ l1 s1, LayL room due bs l s.send.dbl l1 s1 ∧ LayL room due bs l1 s1 l' s') ∨ (f.kind = 3 ∧ LayL room (due + clamp f.n) bs l s.send.lat l' s') ∨
    (f.kind = 4 ∧ LayL room due (turnI bs f.n) l s.send.trn l' s') ∨ ((f.kind < 1 ∨ 4 < f.kind) ∧ LayL room due bs l s.send l' s')
end
end Go.Proofs.Ytlodiibmofeikaa
