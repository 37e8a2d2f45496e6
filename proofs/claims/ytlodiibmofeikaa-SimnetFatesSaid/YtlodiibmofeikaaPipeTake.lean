/- pipe: Take, an iterator that takes out of the pipe what it tells. -/
import Derived.Test.YtlodiibmofeikaaPipePut
import Derived.Deep.RegionHeld3
import Derived.Test.YtlodiibmofeikaaRangeOwnY
namespace Go.Proofs.Ytlodiibmofeikaa
open Go.RowKit Go.Shelf
attribute [local go_sem] Oper.semAt_some
set_option linter.unusedVariables false
set_option linter.unusedSimpArgs false

/-- what comes: a slice of new bytes -/
structure Yd where
  A : Option Addr
  n : Nat
  c : Nat
  bs : List Int
theorem KeepC.row {S : Nat → Prop} {W W' : World} (h : KeepC S W W') {base size n : Nat} {e : TypeId} {v : Value} {xs : List Value} (hr : W.ownsRow base e size v n xs) (hs : ∀ g, v.ownBlock = some g → ¬ S g) : W'.ownsRow base e size v n xs := by
  refine ⟨hr.1, hr.2.imp id ?_⟩
  rintro ⟨g, cap, cur, hv, hg, hh, r⟩
  exact ⟨g, cap, cur, hv, hg, h.2 g cur e (hs g (by rw [hv]; rfl)) hh, r⟩
theorem PAt.keepC {R : Nat → Prop} {S G : Nat → Prop} {w w' : World} {b : Nat} {v : Value} {l : List Msg} {room : Int} (h : PAt R w G b v l room) (hk : KeepC S w w') (hs : ∀ q, G q ∨ R q → ¬ S q) : PAt R w' G b v l room :=
  ⟨hk.blk h.str (hs b (.inl h.gb)), hk.row h.row (fun g hg => hs g (.inl (h.gv g hg))), fun m hm => ⟨hk.row (h.by' m hm).1 (fun g hg => hs g ((h.by' m hm).2.2.2 g hg).1), (h.by' m hm).2⟩, h.gb, h.gv⟩
/-- k messages have been taken -/
def PTook (R : Nat → Prop) (G : Nat → Prop) (b : Nat) (ob : Option Nat) (l : List Msg) (room : Int) (k : Nat) (W : World) : Prop := ∃ v, PAt R W G b v (l.drop k) room ∧ v.ownBlock = ob
theorem PTook.keep {R : Nat → Prop} {S G : Nat → Prop} {b : Nat} {ob : Option Nat} {l : List Msg} {room : Int} {k : Nat} {W W' : World} (h : PTook R G b ob l room k W) (hk : Keep S W W') (hs : ∀ q, G q ∨ R q → ¬ S q) : PTook R G b ob l room k W' := by
  obtain ⟨v, h1, h2⟩ := h
  exact ⟨v, h1.keep hk hs, h2⟩
theorem PTook.keepC {R : Nat → Prop} {S G : Nat → Prop} {b : Nat} {ob : Option Nat} {l : List Msg} {room : Int} {k : Nat} {W W' : World} (h : PTook R G b ob l room k W) (hk : KeepC S W W') (hs : ∀ q, G q ∨ R q → ¬ S q) : PTook R G b ob l room k W' := by
  obtain ⟨v, h1, h2⟩ := h
  exact ⟨v, h1.keepC hk hs, h2⟩
/-- what the iterator tells at a round -/
def YdOk (R : Nat → Prop) (G : Nat → Prop) (b : Nat) (ob : Option Nat) (l : List Msg) (room now : Int) (pre : List Yd) (x : Yd) (N0 : Nat) (W : World) : Prop :=
  (∃ m, l[pre.length]? = some m ∧ m.due ≤ now ∧ x.bs = m.bs) ∧ W.ownsRow N0 5 1 (.slice x.A x.n x.c) x.n (u8s x.bs) ∧ x.bs.length = x.n ∧ x.n ≤ 320 ∧ PTook R G b ob l room (pre.length + 1) W
def lenB (b : Nat) (W : World) : Nat := match W.cell? ⟨b, 1, none⟩ with | some (.slice _ n _) => n | _ => 0
theorem lenB_of {b n c : Nat} {A : Option Addr} {W : World} {room : Int} {T : TypeId} (h : Blk W b #[.int .i64 room, .slice A n c] T) : lenB b W = n := by unfold lenB; rw [(blk2 h).2]
set_option maxRecDepth 100000 in
theorem take_any (b : Nat) (now : Int) (w : World) : Calls Try.prog 32 #[.pointer (some ⟨b, 0, none⟩), .int .i64 now] w fun e w' => e = .returned (.func (.func 46) #[] #[.pointer (some ⟨w.heap.size, 0, none⟩), .pointer (some ⟨w.heap.size + 1, 0, none⟩)]) ∧
    Blk w' w.heap.size #[.pointer (some ⟨b, 0, none⟩)] 71 ∧ Blk w' (w.heap.size + 1) #[.int .i64 now] 3 ∧ Below w.heap.size w w' := by
  have hz : (w.alloc (.cells #[.pointer (some ⟨b, 0, none⟩)] 71)).heap.size = w.heap.size + 1 := by simp
  have h1 := (Blk.new w #[.pointer (some ⟨b, 0, none⟩)] 71).alloc (.cells #[.int .i64 now] 3)
  have h2 := Blk.new (w.alloc (.cells #[.pointer (some ⟨b, 0, none⟩)] 71)) #[.int .i64 now] 3
  rw [hz] at h2
  have h3 : Below w.heap.size w ((w.alloc (.cells #[.pointer (some ⟨b, 0, none⟩)] 71)).alloc (.cells #[.int .i64 now] 3)) := ((Below.refl _ w).alloc (Nat.le_refl _) _).alloc (by rw [hz]; omega) _
  have H1 := Lib.hid h1
  have H2 := Lib.hid h2
  have H3 := Lib.hid h3
  clear hz h1 h2 h3
  go_enter Try.func32, Try.ntmps32
  go_wp2
  go_ret
  exact ⟨rfl, H1.out, H2.out, H3.out⟩
theorem drop_cons {l : List Msg} {k : Nat} {m : Msg} (h : l[k]? = some m) : l.drop k = m :: l.drop (k + 1) := by
  obtain ⟨hk, rfl⟩ := List.getElem?_eq_some_iff.1 h
  exact List.drop_eq_getElem_cons hk
/-- what is left when one has been taken -/
theorem took_pat {R : Nat → Prop} {G : Nat → Prop} {w6 w7 : World} {b g n c : Nat} {m : Msg} {r : List Msg} {room : Int} (h : PAt R w6 G b (.slice (some ⟨g, 0, none⟩) (n + 1) c) (m :: r) room) (hr : r.length = n)
    (ho : w7.ownsRow 0 102 2 (.slice (some ⟨g, 0, none⟩) n c) n ((erase1 (m :: r) 0).flatMap msgCells)) (hk : Keep (fun q => q = g) w6 w7) :
    PAt R (w7.setCell ⟨b, 1, none⟩ (.slice (some ⟨g, 0, none⟩) n c)) G b (.slice (some ⟨g, 0, none⟩) n c) r room := by
  have hgb : g ≠ b := (h.ne rfl).1
  have hk5 : Keep (fun q => q = b) w7 (w7.setCell ⟨b, 1, none⟩ (.slice (some ⟨g, 0, none⟩) n c)) := (Keep.refl (fun q => q = b) w7).setCell (p := ⟨b, 1, none⟩) (.inl rfl) _
  refine ⟨(h.str.keep hk (fun e => hgb e.symm)).set' rfl, ?_, fun x hx => ?_, h.gb, fun q hq => by cases hq; exact h.gv g rfl⟩
  · rw [hr]
    exact ownsRow_keep ho hk5 (fun q hq e => by cases hq; exact hgb e)
  · have h1 := h.by' x (List.mem_cons_of_mem _ hx)
    have h2 := (h1.keep hk (fun q hq e => hq.2.2 (by rw [e]; rfl))).keep hk5 (fun q hq e => hq.2.1 e)
    exact h2.mono (fun q hq _ => hq)
set_option maxRecDepth 100000 in
set_option maxHeartbeats 4000000 in
theorem take1_in {R : Nat → Prop} (n0 : Nat) (hn0 : 1 ≤ n0) (lp pB pN b N0 : Nat) (ob : Option Nat) (l : List Msg) (room now : Int) (G Sx : Nat → Prop) (J Jx : List Yd → World → Prop) (W : World) (hN : N0 ≤ W.heap.size)
    (hG : ∀ q, G q ∨ R q → ¬ Sx q ∧ q < N0) (hGb : G b) (hGo : ∀ g, ob = some g → G g) (hpB : ¬ G pB ∧ ¬ Sx pB ∧ pB < N0) (hpN : ¬ G pN ∧ ¬ Sx pN ∧ pN < N0) (hll : l.length ≤ 100000)
    (hJ : ∀ s A B, J s A → Keep (fun q => q = b ∨ ob = some q) A B → J s B)
    (hY : ∀ pre x A0 A, J pre A0 → Keep (fun q => q = b ∨ ob = some q) A0 A → J pre A → YdOk R G b ob l room now pre x A0.heap.size A → YieldAt Fence.wide (n0 - 1) Try.prog lp #[.slice x.A x.n x.c] A fun e B =>
      (e = .returned (.bool true) ∧ J (pre ++ [x]) B ∧ KeepC Sx A B) ∨ (e = .returned (.bool false) ∧ Jx (pre ++ [x]) B ∧ KeepC Sx A B))
    (hB : Blk W pB #[.pointer (some ⟨b, 0, none⟩)] 71) (hNw : Blk W pN #[.int .i64 now] 3) (hS : PTook R G b ob l room 0 W) (h0 : J [] W) :
    CallsIn Fence.wide n0 Try.prog 46 #[.func (.yield lp) #[] #[], .pointer (some ⟨pB, 0, none⟩), .pointer (some ⟨pN, 0, none⟩)] W fun e W' => (∃ v, e = .returned v) ∧
      ((∃ xs : List Yd, (PTook R G b ob l room xs.length W' ∧ xs.length = dueN l now) ∧ J xs W') ∨ (∃ pre : List Yd, (PTook R G b ob l room pre.length W' ∧ pre.length ≤ dueN l now) ∧ Jx pre W')) := by
  have HS := Lib.hid hS
  have HY := Lib.hid hY
  have HJ := Lib.hid hJ
  have HG := Lib.hid hG
  have HGO := Lib.hid hGo
  have HPB := Lib.hid hB
  have HPN := Lib.hid hNw
  have HDL : Hid (dueN l now ≤ l.length) := dueN_le l now
  clear hS hY hJ hG hGo hB hNw
  refine callsIn_of_wp Try.func46 rfl trivial ?_ rfl
  simp only [Try.ntmps46, List.size_toArray, List.length_cons, List.length_nil, Nat.reduceAdd, Nat.reduceSub, Array.replicate_succ, Array.replicate_zero, List.push_toArray, List.append_toArray, List.nil_append, List.cons_append]
  gi_wp2
  gi_loopw [4] (fun _ wr => ∃ pre : List Yd, pre.length ≤ l.length ∧ Hid (pre.length ≤ dueN l now) ∧ J pre wr ∧ Hid (PTook R G b ob l room pre.length wr) ∧ Hid (Blk wr pB #[.pointer (some ⟨b, 0, none⟩)] 71) ∧ Hid (Blk wr pN #[.int .i64 now] 3) ∧ Hid (N0 ≤ wr.heap.size)) (fun _ wr => lenB b wr)
  case atStart => exact ⟨[], Nat.zero_le _, Nat.zero_le _, h0, HS, HPB, HPN, hN⟩
  case round =>
    obtain ⟨pre, hpl, HPD, hJp, HT, HB, HNw, HNS⟩ := hrel
    obtain ⟨v, hP, hob⟩ := HT.out
    have HP := Lib.hid hP
    have HOB := Lib.hid hob
    have b0 := HB.out.cell 0 (v := .pointer (some ⟨b, 0, none⟩)) rfl
    have n1 := HNw.out.cell 0 (v := .int .i64 now) rfl
    by_cases hlt : pre.length < l.length
    · obtain ⟨m, hm⟩ : ∃ m, l[pre.length]? = some m := ⟨_, List.getElem?_eq_getElem hlt⟩
      have hdr := drop_cons hm
      rw [hdr] at HP hP
      obtain ⟨g, p, c, he, o0, o1⟩ := MsgsAt.at hP.msgs (k := 0) (a := m) rfl
      have hp0 : p = 0 := by
        rcases hP.row.2 with ⟨hv, h0⟩ | ⟨g', cap, cur, hv, _⟩
        · rw [hv] at he; cases he
        · rw [hv] at he; cases he; rfl
      subst hp0
      obtain ⟨n, hn⟩ : ∃ n, n = (l.drop (pre.length + 1)).length := ⟨_, rfl⟩
      have hn1 : (m :: l.drop (pre.length + 1)).length = n + 1 := by rw [List.length_cons, ← hn]
      rw [hn1] at he
      subst he
      have HNN := Lib.hid hn
      obtain ⟨c0, c1⟩ := blk2 hP.str
      replace o0 : wr.cell? ⟨g, 0, none⟩ = some (.int .i64 m.due) := by simpa using o0
      replace o1 : wr.cell? ⟨g, 1, none⟩ = some (.slice m.A m.n m.c) := by simpa using o1
      have HM := Lib.hid hm
      have HMO := Lib.hid (hP.by' m (by simp))
      have hgb : ¬ g = b := (hP.ne rfl).1
      have HGG : Hid (G g) := hP.gv g rfl
      have hpg : ¬ pB = g := fun e => hpB.1 (by rw [e]; exact HGG.out)
      have i0 : decide ((0 : Int) < ((n + 1 : Nat) : Int)) = true := decide_eq_true (by omega)
      have i1 : (0 : Int) < ((n + 1 : Nat) : Int) := by omega
      clear hm hdr hP hob hn hn1
      by_cases hd : m.due ≤ now
      · have d1 : decide (m.due ≤ now) = true := decide_eq_true hd
        gi_wp2
        rw [wpIn_wide]
        go_quiet (fail)
        have hk5 : Keep (fun q => q = b ∨ ob = some q) wr (wr.drewN nq) := (Keep.refl _ wr).drewN nq
        have hJ5 := HJ.out _ _ _ hJp hk5
        have HP5 := Lib.hid (HP.out.below (below_drewN (Below.refl _ wr) nq))
        have HB5 := Lib.hid (HB.out.drewN nq)
        have HN5 := Lib.hid (HNw.out.drewN nq)
        have HMO5 := Lib.hid (HMO.out.keep ((Keep.refl (fun _ => False) wr).drewN nq) (fun _ _ => id))
        have HNS5 : Hid (N0 ≤ (wr.drewN nq).heap.size) := HNS.out
        have HL5 : Hid (lenB b wr = n + 1) := lenB_of HP.out.str
        replace b0 : (wr.drewN nq).cell? ⟨pB, 0, none⟩ = some (.pointer (some ⟨b, 0, none⟩)) := b0
        replace c1 : (wr.drewN nq).cell? ⟨b, 1, none⟩ = some (.slice (some ⟨g, 0, none⟩) (n + 1) c) := c1
        replace o1 : (wr.drewN nq).cell? ⟨g, 1, none⟩ = some (.slice m.A m.n m.c) := o1
        clear hk5 hJp n1 c0 o0 d1
        obtain ⟨w5, hw5⟩ : ∃ w5, w5 = wr.drewN nq := ⟨_, rfl⟩
        rw [← hw5] at hJ5 HP5 HB5 HN5 HMO5 HNS5 b0 c1 o1 ⊢
        clear hw5
        gi_wp2
        refine ⟨trivial, (callsIn_wide.2 (clone_byte (.slice m.A m.n m.c) m.n (u8s m.bs) w5 (Reads.of_owns HMO5.out.1) (by have := HMO5.out.2.2.1; omega) (u8s_one m.bs))).mono ?_⟩
        rintro e w6 ⟨A6, c6, rfl, ho6, hb6, -⟩
        have hJ6 := HJ.out _ _ _ hJ5 (Keep.ofBelowAll hb6)
        have HO6 : Hid (w6.drew.ownsRow w5.heap.size 5 1 (.slice A6 m.n c6) m.n (u8s m.bs)) := ho6
        have hbd : Below w5.heap.size w5 w6.drew := bmore hb6 (below_drewN (Below.refl _ w6) 1) hb6.size
        have HP6 := Lib.hid (HP5.out.below hbd)
        have HBD := Lib.hid hbd
        have HJ5 : Hid (J pre w5) := hJ5
        have HNS6 : Hid (N0 ≤ w6.drew.heap.size) := Nat.le_trans HNS5.out hbd.size
        have HB6 := Lib.hid (HB5.out.below hbd)
        have HN6 := Lib.hid (HN5.out.below hbd)
        have hJ6d := HJ.out _ _ _ hJ6 ((Keep.refl _ w6).drew)
        have hdel := delete_msg 0 g n 0 c (m :: l.drop (pre.length + 1)) w6.drew (by rw [List.length_cons, ← HNN.out]) (Nat.zero_le _) msg_one (by have := HNN.out; rw [List.length_drop] at this; omega) (by have := HP6.out.row; rw [List.length_cons, ← HNN.out] at this; exact this)
        have HDEL : Hid (Calls Try.prog 48 #[.slice (some ⟨g, 0, none⟩) (n + 1) c, .int .i64 0, .int .i64 1] w6.drew fun e w' => e = .returned (.slice (some ⟨g, 0, none⟩) n c) ∧
          w'.ownsRow 0 102 2 (.slice (some ⟨g, 0, none⟩) n c) n ((erase1 (m :: l.drop (pre.length + 1)) 0).flatMap msgCells) ∧ Keep (fun k => k = g) w6.drew w') := hdel
        clear ho6 hb6 hbd hdel hJ5 hJ6 b0 c1 o1
        gi_wp2
        rw [wpIn_wide]
        refine wp_region_heldT (S := fun w' => Blk w' pB #[.pointer (some ⟨b, 0, none⟩)] 71 ∧ Blk w' b #[.int .i64 room, .slice (some ⟨g, 0, none⟩) (n + 1) c] 98) 8 (by kernel_rfl) ⟨HB6.out, HP6.out.str⟩ (fun hHeld => ?_)
        refine heldT_takeC [] (i := 0) (v := ?_) rfl (by kernel_rfl) (by kernel_rfl) (by kernel_rfl) (by kernel_rfl) (fun _ _ _ h => h) (Or.inl ⟨by rfl, ?_⟩) hHeld ?_
        rotate_left 1
        · intro wS hSw; obtain ⟨s1, s2⟩ := hSw; have p0 := s1.cell 0 (v := .pointer (some ⟨b, 0, none⟩)) rfl; obtain ⟨e0, e1⟩ := blk2 s2; clear s1 s2; go_simp <;> with_reducible rfl
        (try simp only [Act.put, List.setIfInBounds_toArray, List.set_cons_zero, List.set_cons_succ])
        refine heldT_takeC [] (i := 1) (v := ?_) rfl (by kernel_rfl) (by kernel_rfl) (by kernel_rfl) (by kernel_rfl) (fun _ _ _ h => h) (Or.inl ⟨by rfl, ?_⟩) hHeld ?_
        rotate_left 1
        · intro wS hSw; obtain ⟨s1, s2⟩ := hSw; have p0 := s1.cell 0 (v := .pointer (some ⟨b, 0, none⟩)) rfl; obtain ⟨e0, e1⟩ := blk2 s2; clear s1 s2; go_simp <;> with_reducible rfl
        (try simp only [Act.put, List.setIfInBounds_toArray, List.set_cons_zero, List.set_cons_succ])
        refine heldT_free (i := 2) (v := ?_) rfl (by kernel_rfl) (by kernel_rfl) (by kernel_rfl) (by kernel_rfl) (fun _ _ _ h => h) (Or.inl ⟨by rfl, ?_⟩) hHeld ?_
        rotate_left 1
        · intro wS; go_simp <;> with_reducible rfl
        (try simp only [Act.put, List.setIfInBounds_toArray, List.set_cons_zero, List.set_cons_succ])
        refine heldT_free (i := 3) (v := ?_) rfl (by kernel_rfl) (by kernel_rfl) (by kernel_rfl) (by kernel_rfl) (fun _ _ _ h => h) (Or.inl ⟨by rfl, ?_⟩) hHeld ?_
        rotate_left 1
        · intro wS; go_simp <;> with_reducible rfl
        (try simp only [Act.put, List.setIfInBounds_toArray, List.set_cons_zero, List.set_cons_succ])
        refine heldT_takeC [] (i := 4) (v := ?_) rfl (by kernel_rfl) (by kernel_rfl) (by kernel_rfl) (by kernel_rfl) (fun _ _ _ h => h) (Or.inl ⟨by rfl, ?_⟩) hHeld ?_
        rotate_left 1
        · intro wS hSw; obtain ⟨s1, s2⟩ := hSw; have p0 := s1.cell 0 (v := .pointer (some ⟨b, 0, none⟩)) rfl; obtain ⟨e0, e1⟩ := blk2 s2; clear s1 s2; go_simp <;> with_reducible rfl
        (try simp only [Act.put, List.setIfInBounds_toArray, List.set_cons_zero, List.set_cons_succ])
        refine heldT_one (j := 5) (by kernel_rfl) (by kernel_rfl) rfl (fun K hK => ?_)
        go_simp
        go_at_call 48
        refine HDEL.out.mono ?_
        rintro e w4 ⟨rfl, ho4, hk4⟩
        have HO4 := Lib.hid ho4
        have HK4 := Lib.hid hk4
        have HS4 := Lib.hid (HP6.out.str.keep hk4 (fun e => hgb e.symm))
        have HPB4 := Lib.hid (HB6.out.keep hk4 hpg)
        clear ho4 hk4
        go_wp2_with fail
        refine hK.out _ _ ⟨HPB4.out, HS4.out⟩ (fun hHeld => ?_)
        clear hK K
        (try simp only [Act.put, List.setIfInBounds_toArray, List.set_cons_zero, List.set_cons_succ])
        refine heldT_free (i := 6) (v := ?_) rfl (by kernel_rfl) (by kernel_rfl) (by kernel_rfl) (by kernel_rfl) (fun _ _ _ h => h) (Or.inl ⟨by rfl, ?_⟩) hHeld ?_
        rotate_left 1
        · intro wS; go_simp <;> with_reducible rfl
        (try simp only [Act.put, List.setIfInBounds_toArray, List.set_cons_zero, List.set_cons_succ])
        refine heldT_free (i := 7) (v := ?_) rfl (by kernel_rfl) (by kernel_rfl) (by kernel_rfl) (by kernel_rfl) (fun _ _ _ h => h) (Or.inl ⟨by rfl, ?_⟩) hHeld ?_
        rotate_left 1
        · intro wS; go_simp <;> with_reducible rfl
        (try simp only [Act.put, List.setIfInBounds_toArray, List.set_cons_zero, List.set_cons_succ])
        refine heldT_tail (by kernel_rfl) rfl rfl (by kernel_rfl) ?_
        (try simp only [List.drop_succ_cons, List.drop_zero])
        have s1 := (blk2 HS4.out).2
        have f1 := HS4.out.frozen 1
        go_wp2_with fail
        refine NoPanic.normal ?_
        have hgo : ob = some g := HOB.out.symm
        have HT8 : Hid (PTook R G b ob l room (pre.length + 1) (w4.setCell ⟨b, 1, none⟩ (.slice (some ⟨g, 0, none⟩) n c))) := ⟨_, took_pat HP6.out HNN.out.symm HO4.out HK4.out, HOB.out⟩
        have hk8 : Keep (fun q => q = b ∨ ob = some q) w6.drew (w4.setCell ⟨b, 1, none⟩ (.slice (some ⟨g, 0, none⟩) n c)) := (HK4.out.mono (fun q _ e => .inr (by rw [e]; exact hgo))).setCell (p := ⟨b, 1, none⟩) (.inl (.inl rfl)) _
        have hJ8 := HJ.out _ _ _ hJ6d hk8
        have hno : ∀ q, q = pB ∨ q = pN ∨ w5.heap.size ≤ q → ¬ (q = b ∨ ob = some q) := fun q hq e => by
          have hq2 : G q := e.elim (fun e => e ▸ hGb) (fun e => HGO.out q e)
          rcases hq with rfl | rfl | hq
          · exact hpB.1 hq2
          · exact hpN.1 hq2
          · have := (HG.out q (.inl hq2)).2; have := HNS5.out; omega
        have HB8 := Lib.hid (HB6.out.keep hk8 (hno pB (.inl rfl)))
        have HN8 := Lib.hid (HN6.out.keep hk8 (hno pN (.inr (.inl rfl))))
        have HO8 := Lib.hid (ownsRow_keep HO6.out hk8 (fun q hq => hno q (.inr (.inr (HO6.out.lt q hq).1))))
        have HK58 := Lib.hid (((Keep.ofBelowAll HBD.out : Keep (fun q => q = b ∨ ob = some q) w5 w6.drew)).trans hk8 (fun _ _ h => h))
        have HNS8 : Hid (N0 ≤ (w4.setCell ⟨b, 1, none⟩ (.slice (some ⟨g, 0, none⟩) n c)).heap.size) := Nat.le_trans HNS6.out hk8.size
        have HYD : Hid (YdOk R G b ob l room now pre ⟨A6, m.n, c6, m.bs⟩ w5.heap.size (w4.setCell ⟨b, 1, none⟩ (.slice (some ⟨g, 0, none⟩) n c))) := ⟨⟨m, HM.out, hd, rfl⟩, HO8.out, HMO5.out.2.1, HMO5.out.2.2.1, HT8.out⟩
        have HDD : Hid (pre.length + 1 ≤ dueN l now) := by
          show _ ≤ _
          rcases Nat.lt_or_ge pre.length (dueN l now) with h | h
          · omega
          · have e1 : pre.length = dueN l now := Nat.le_antisymm HPD.out h
            have := dueN_at (l := l) (now := now) (m := m) (by rw [← e1]; exact HM.out)
            omega
        clear hno hk8 hJ6d s1 f1 hgo
        generalize w4.setCell ⟨b, 1, none⟩ (.slice (some ⟨g, 0, none⟩) n c) = w8 at *
        obtain ⟨fn, tmps, assign, body, hy, hR⟩ := HY.out pre ⟨A6, m.n, c6, m.bs⟩ w5 w8 HJ5.out HK58.out hJ8 HYD.out
        gi_wp2
        refine hR.mono ?_
        rintro e W3 (⟨rfl, hJ3, hk3⟩ | ⟨rfl, hJx3, hk3⟩)
        · have HT3 := Lib.hid (HT8.out.keepC hk3 (fun q hq => (HG.out q hq).1))
          have HB3 := Lib.hid (hk3.blk HB8.out hpB.2.1)
          have HN3 := Lib.hid (hk3.blk HN8.out hpN.2.1)
          have HNS3 : Hid (N0 ≤ W3.heap.size) := Nat.le_trans HNS8.out hk3.1
          have HL3 : Hid (lenB b W3 = n) := by
            obtain ⟨v3, h3, -⟩ := HT3.out
            obtain ⟨A3, c3, hv3⟩ := h3.slice
            have h4 := h3.str
            rw [hv3] at h4
            exact (lenB_of h4).trans HNN.out.symm
          clear hk3 hy hR
          gi_wp2
          go_roundw
          case rel => exact ⟨pre ++ [⟨A6, m.n, c6, m.bs⟩], by simp; omega, by show _ ≤ _; rw [List.length_append]; exact HDD.out, hJ3, by show PTook R _ _ _ _ _ _ _; rw [List.length_append]; exact HT3.out, HB3, HN3, HNS3⟩
          case measure => rw [HL5.out, HL3.out]; omega
        · have HT3 := Lib.hid (HT8.out.keepC hk3 (fun q hq => (HG.out q hq).1))
          gi_wp2
          refine bodyPost_ret (results_none rfl _ _ _) rfl ?_
          exact ⟨⟨_, rfl⟩, .inr ⟨pre ++ [⟨A6, m.n, c6, m.bs⟩], by rw [List.length_append]; exact ⟨HT3.out, HDD.out⟩, hJx3⟩⟩
      · have d1 : decide (m.due ≤ now) = false := decide_eq_false hd
        have HE1 : Hid (pre.length = dueN l now) := dueN_eq HM.out (by omega) HPD.out
        gi_wp2
        rw [wpIn_wide]
        go_quiet (fail)
        have hJ5 := HJ.out _ _ _ hJp ((Keep.refl (fun q => q = b ∨ ob = some q) wr).drewN nq)
        have HT5 := Lib.hid (HT.out.keep ((Keep.refl (fun _ => False) wr).drewN nq) (fun _ _ => id))
        gi_wp2
        go_end0
        exact ⟨⟨_, rfl⟩, .inl ⟨pre, ⟨HT5.out, HE1.out⟩, hJ5⟩⟩
    · have hdr : l.drop pre.length = [] := List.drop_eq_nil_of_le (by omega)
      rw [hdr] at hP
      obtain ⟨A, k, rfl⟩ := hP.slice
      obtain ⟨c0, c1⟩ := blk2 hP.str
      have HE1 : Hid (pre.length = dueN l now) := by
        show _ = _
        have h1 := HPD.out
        have h2 := HDL.out
        omega
      have i0 : decide ((0 : Int) < (([] : List Msg).length : Int)) = false := by decide
      simp only [List.length_nil] at c1
      clear hdr hP hob HP HOB
      gi_wp2
      rw [wpIn_wide]
      go_quiet (fail)
      have hJ5 := HJ.out _ _ _ hJp ((Keep.refl (fun q => q = b ∨ ob = some q) wr).drewN nq)
      have HT5 := Lib.hid (HT.out.keep ((Keep.refl (fun _ => False) wr).drewN nq) (fun _ _ => id))
      gi_wp2
      go_end0
      exact ⟨⟨_, rfl⟩, .inl ⟨pre, ⟨HT5.out, HE1.out⟩, hJ5⟩⟩
end Go.Proofs.Ytlodiibmofeikaa
