/- pipe: Put of any; the iterator's sequence; the law's awake. -/
import Derived.Test.YtijmmmgmpfhgoaaPipeTake
import Derived.Lib.SlBytesConst
import Derived.Laws.BytesArg
namespace Go.Proofs.Ytijmmmgmpfhgoaa
open Go.RowKit Go.Shelf
attribute [local go_sem] Oper.semAt_some
set_option linter.unusedVariables false
set_option linter.unusedSimpArgs false

theorem conv_zero (w : World) (p : Option Addr) (c : Nat) : (convert 28 9 (.slice p 0 c)).run Try.prog w = .ok (.string (strOfNums [])) w := by
  rw [run_convert_bytes_string w _ _ _ _ 0 c Try.underlying28 Try.underlying5 Try.underlying9]
  cases p <;> simp [Conv.bytesToString, loadCells]
  all_goals rfl
theorem conv_ints {w : World} {A : Option Addr} {n c : Nat} {l : List Int} (h : Reads w 1 (.slice A n c) n (u8s l)) :
    (convert 28 9 (.slice A n c)).run Try.prog w = .ok (.string (strOfNums l)) w := by
  have hl : l.length = n := by have := h.len; unfold u8s at this; rw [List.length_map] at this; omega
  rcases Nat.eq_zero_or_pos n with hn | hn
  · subst hn
    obtain rfl : l = [] := List.eq_nil_of_length_eq_zero hl
    exact conv_zero w A c
  · obtain ⟨B, o, c', he, -⟩ := h.at 0 (.int .u8 (l[0]'(by omega))) (by unfold u8s; rw [List.getElem?_map, List.getElem?_eq_getElem (by omega)]; rfl)
    cases he
    refine run_convert_bytes_arg (P := Try.prog) w _ _ Try.underlying28 Try.underlying5 B o n c l hl (fun i hi => ?_) _ Try.underlying9
    obtain ⟨B', o', c', he, hc⟩ := h.at i (.int .u8 (l[i]'(by omega))) (by unfold u8s; rw [List.getElem?_map, List.getElem?_eq_getElem (by omega)]; rfl)
    cases he
    rw [hc]
    simp [show i < l.length by omega]
theorem reads_newm (w : World) (cs : Array Value) (E : TypeId) (fr : Nat × Nat) (n : Nat) (h : cs.size = n) (hn : n ≤ 1000000) : Reads (w.alloc (.cells cs E fr)) 1 (.slice (some ⟨w.heap.size, 0, none⟩) n n) n cs.toList :=
  ⟨by simpa using h, _, n, rfl, Nat.le_refl _, by unfold maxLen; omega, fun ha => (by cases ha), fun a ha _ => by cases ha; exact ⟨rfl, by simp⟩, fun j u hu => ⟨_, rfl, by
    rw [Nat.zero_add, cell_of_row _ _ _ _ _ _ (heap_alloc_new w _)]; simpa using hu⟩⟩
def putE (l : List Msg) (room due : Int) (n : Nat) : Int := if due < 0 ∨ 2199023255552 < due ∨ 320 < n then 11 else if room ≤ l.length then 15 else 0
/-- what Put leaves -/
structure PutR (R : Nat → Prop) (w w' : World) (G : Nat → Prop) (b : Nat) (l : List Msg) (room due : Int) (n : Nat) (bs : List Int) : Prop where
  ex : ∃ v' l', PAt R w' (fun q => G q ∨ w.heap.size ≤ q) b v' l' room ∧ ((putE l room due n ≠ 0 ∧ l' = l) ∨ (putE l room due n = 0 ∧ ∃ m, l' = put1 l (dueN l due) m ∧ m.due = due ∧ m.bs = bs))
  kp : Keep G w w'
theorem put_any {R : Nat → Prop} {G : Nat → Prop} (b : Nat) (v : Value) (l : List Msg) (room due : Int) (A0 : Option Addr) (n c : Nat) (bs : List Int) (w : World) (h : PAt R w G b v l room) (hn : l.length ≤ 100000) (hr : 0 ≤ room ∧ room ≤ 1000) (hx : Reads w 1 (.slice A0 n c) n (u8s bs)) (hb : bs.length = n) :
    Calls Try.prog 9 #[.pointer (some ⟨b, 0, none⟩), .int .i64 due, .slice A0 n c] w fun e w' => e = .returned (.int .i64 (putE l room due n)) ∧ PutR R w w' G b l room due n bs := by
  by_cases h1 : due < 0 ∨ 2199023255552 < due ∨ 320 < n
  · have he : putE l room due n = 11 := if_pos h1
    rw [he]
    refine (put_range (G := G) b v l room due A0 n c w h1).mono ?_
    rintro e w' ⟨rfl, rfl⟩
    exact ⟨rfl, ⟨v, l, h.mono (fun q hq _ => .inl hq), .inl ⟨by rw [he]; decide, rfl⟩⟩, Keep.refl _ _⟩
  · by_cases h2 : room ≤ l.length
    · have he : putE l room due n = 15 := by unfold putE; rw [if_neg h1, if_pos h2]
      rw [he]
      refine (put_full b v l room due A0 n c w h (by omega) hr (by omega) (by omega) (by omega) h2).mono ?_
      rintro e w' ⟨rfl, hb'⟩
      exact ⟨rfl, ⟨v, l, (h.below hb').mono (fun q hq _ => .inl hq), .inl ⟨by rw [he]; decide, rfl⟩⟩, Keep.ofBelowAll hb'⟩
    · have he : putE l room due n = 0 := by unfold putE; rw [if_neg h1, if_neg h2]
      rw [he]
      refine (put_ok b v l room due A0 n c bs w h (by omega) hr (by omega) (by omega) (by omega) (by omega) hx hb).mono ?_
      rintro e w' ⟨rfl, v', m, h3, h4, h5, h6, h7⟩
      exact ⟨rfl, ⟨v', _, h3, .inr ⟨he, m, rfl, h4, h5⟩⟩, h7⟩
/-- the iterator as its caller sees it -/
theorem take_seq {R : Nat → Prop} (n0 : Nat) (hn0 : 1 ≤ n0) (pB pN b : Nat) (ob : Option Nat) (l : List Msg) (room now : Int) (G Sx : Nat → Prop) (w : World)
    (hG : ∀ q, G q ∨ R q → ¬ Sx q ∧ q < w.heap.size) (hGb : G b) (hGo : ∀ g, ob = some g → G g) (hpB : ¬ G pB ∧ ¬ Sx pB) (hpN : ¬ G pN ∧ ¬ Sx pN) (hll : l.length ≤ 100000)
    (hB : Blk w pB #[.pointer (some ⟨b, 0, none⟩)] 22) (hNw : Blk w pN #[.int .i64 now] 3) (hS : PTook R G b ob l room 0 w) :
    SeqOwnY Fence.wide n0 Try.prog 28 #[.pointer (some ⟨pB, 0, none⟩), .pointer (some ⟨pN, 0, none⟩)] (fun x : Yd => #[.slice x.A x.n x.c]) (KeepC Sx) (fun q => q = b ∨ ob = some q)
      (YdOk R G b ob l room now) (fun xs W => PTook R G b ob l room xs.length W ∧ xs.length = dueN l now) (fun pre W => PTook R G b ob l room pre.length W ∧ pre.length ≤ dueN l now) w :=
  fun lp J Jx W hW hJ hY h0 => take1_in n0 hn0 lp pB pN b w.heap.size ob l room now G Sx J Jx W hW.size hG hGb hGo ⟨hpB.1, hpB.2, hB.lt⟩ ⟨hpN.1, hpN.2, hNw.lt⟩ hll hJ hY (hB.below hW) (hNw.below hW) (hS.keep (Keep.none hW) (fun _ _ => id)) h0
theorem PTook.turn {R : Nat → Prop} {G : Nat → Prop} {b : Nat} {ob : Option Nat} {l : List Msg} {room : Int} {k : Nat} {W : World} (h : PTook R G b ob l room k W) {q : Nat} {o o' : Obj} (ho : W.heap[q]? = some o) (hc : o.isCells = false) : PTook R G b ob l room k (W.putObj q o') := by
  have hk : KeepC (fun _ => False) W (W.putObj q o') := by
    refine ⟨by simp, fun k cs T _ hk => ?_⟩
    by_cases e : k = q
    · subst e
      rw [hk] at ho
      cases ho
      cases hc
    · exact (World.putObj_heap_other e).trans hk
  exact h.keepC hk (fun _ _ => id)
theorem keepC_turn {W : World} {q : Nat} {o o' : Obj} (ho : W.heap[q]? = some o) (hc : o.isCells = false) (S : Nat → Prop) : KeepC S W (W.putObj q o') := by
  refine ⟨by simp, fun k cs T _ hk => ?_⟩
  by_cases e : k = q
  · subst e
    rw [hk] at ho
    cases ho
    cases hc
  · exact (World.putObj_heap_other e).trans hk
theorem YdOk.turn {R : Nat → Prop} {N0 : Nat} {G : Nat → Prop} {b : Nat} {ob : Option Nat} {l : List Msg} {room now : Int} {pre : List Yd} {x : Yd} {W : World} (h : YdOk R G b ob l room now pre x N0 W) {q : Nat} {o o' : Obj} (ho : W.heap[q]? = some o) (hc : o.isCells = false) : YdOk R G b ob l room now pre x N0 (W.putObj q o') :=
  ⟨h.1, (keepC_turn ho hc (fun _ => False)).row h.2.1 (fun _ _ => id), h.2.2.1, h.2.2.2.1, h.2.2.2.2.turn ho hc⟩
/-- from a base world on, but for some boxes -/
def NoR : Nat → Prop := fun _ => False
def Far (w0 : World) (X : Nat → Prop) (q : Nat) : Prop := w0.heap.size ≤ q ∧ ¬ X q
theorem PAt.far {R : Nat → Prop} {w0 w w' : World} {X : Nat → Prop} {b : Nat} {v : Value} {l : List Msg} {room : Int} (h : PAt R w' (fun q => Far w0 X q ∨ w.heap.size ≤ q) b v l room) (h0 : w0.heap.size ≤ w.heap.size) (hX : ∀ q, X q → q < w.heap.size) : PAt R w' (Far w0 X) b v l room :=
  h.mono (fun q hq _ => hq.elim id (fun x => ⟨Nat.le_trans h0 x, fun e => by have := hX q e; omega⟩))
theorem PutR.far {R : Nat → Prop} {w0 w w' : World} {X : Nat → Prop} {b : Nat} {l : List Msg} {room due : Int} {n : Nat} {bs : List Int} (h : PutR R w w' (Far w0 X) b l room due n bs) (h0 : w0.heap.size ≤ w.heap.size) (hX : ∀ q, X q → q < w.heap.size) :
    ∃ v' l', PAt R w' (Far w0 X) b v' l' room ∧ ((putE l room due n ≠ 0 ∧ l' = l) ∨ (putE l room due n = 0 ∧ ∃ m, l' = put1 l (dueN l due) m ∧ m.due = due ∧ m.bs = bs)) := by
  obtain ⟨⟨v', l', h1, h2⟩, -⟩ := h
  exact ⟨v', l', h1.far h0 hX, h2⟩
theorem below_turn {B : Nat} {w0 W : World} {q : Nat} {o' : Obj} (h : Below B w0 W) (hq : B ≤ q) : Below B w0 (W.putObj q o') := h.trans ⟨rfl, rfl, rfl, by simp, fun k hk => World.putObj_heap_other (by omega)⟩
theorem blk_turn {W : World} {b : Nat} {cs : Array Value} {T : TypeId} (h : Blk W b cs T) {q : Nat} {o o' : Obj} (ho : W.heap[q]? = some o) (hc : o.isCells = false) : Blk (W.putObj q o') b cs T :=
  (keepC_turn ho hc (fun _ => False)).blk h id
theorem str_b : strOfNums [98] = { data := #[98] } := by rfl
set_option maxRecDepth 100000 in
set_option maxHeartbeats 4000000 in
theorem awake_any (w : World) : Calls Try.prog 8 #[] w fun e w' => e = .returned (.bool true) ∧ Below w.heap.size w w' := by
  have kc := fun (w : World) (C : Array Value) (n c : Nat) => Lib.run_convert_bytes_const (P := Try.prog) w 28 5 C n c Try.underlying28 Try.underlying5
  have HNY := Lib.hid (new_ok (R := NoR) 2 w (by omega) (by omega))
  have HNN := Lib.hid (fun w => new_no 0 w (by omega))
  have HPA := Lib.hid (@put_any NoR (Far w (fun _ => False)))
  refine callsIn_wide.1 (callsIn_of_wp_marks (F := Fence.wide) (n := 9) Try.func8 rfl trivial ?_)
  rw [wpIn_wide]
  simp only [Try.ntmps8, List.size_toArray, List.length_cons, List.length_nil, Nat.reduceAdd, Nat.reduceSub, Array.replicate_succ, Array.replicate_zero, List.push_toArray, List.append_toArray, List.nil_append, List.cons_append]
  go_wp2_with fail
  refine HNY.out.mono ?_
  rintro e w1 ⟨b, rfl, h1, hb1⟩
  have H1 : Hid (PAt NoR w1 (Far w (fun _ => False)) b (.slice none 0 0) [] 2) := h1.mono (fun q hq _ => ⟨hq, id⟩)
  have HB1 := Lib.hid hb1
  clear h1 hb1
  have hb1a : Below w1.heap.size w1 (w1.alloc (.cells #[.int .u8 97] 5 (1, 2))) := (Below.refl _ w1).alloc (Nat.le_refl _) _
  have H1a := Lib.hid (H1.out.below hb1a)
  have HB1a := Lib.hid (bmore HB1.out hb1a HB1.out.size)
  have HR1 : Hid (Reads (w1.alloc (.cells #[.int .u8 97] 5 (1, 2))) 1 (.slice (some ⟨w1.heap.size, 0, none⟩) 1 1) 1 (u8s [97])) := reads_newm w1 #[.int .u8 97] 5 (1, 2) 1 rfl (by omega)
  clear hb1a
  go_wp2_with fail
  generalize w1.alloc (.cells #[.int .u8 97] 5 (1, 2)) = w1a at *
  refine (HPA.out b _ [] 2 5 _ 1 1 [97] w1a H1a.out (by simp) (by omega) HR1.out rfl).mono ?_
  rintro e w2 ⟨rfl, r1⟩
  have hE1 : putE [] 2 5 1 = 0 := by decide
  rw [hE1]
  have H2 : Hid (∃ v m1, PAt NoR w2 (Far w (fun _ => False)) b v [m1] 2 ∧ m1.due = 5) := by
    obtain ⟨v', l', h1, h2⟩ := r1.far HB1a.out.size (fun q e => e.elim)
    rcases h2 with ⟨h2, -⟩ | ⟨-, m, h2, h3, -⟩
    · exact absurd hE1 h2
    · subst h2; exact ⟨v', m, h1, h3⟩
  have HB2 := Lib.hid (bkeep HB1a.out r1.kp (Nat.le_refl _) (fun q h => h.1))
  clear r1 hE1 H1 H1a HB1 HB1a HR1
  obtain ⟨v2, m1, hp2, hm1⟩ := H2.out
  have HP2 := Lib.hid hp2
  have HM1 := Lib.hid hm1
  have hb2a : Below w2.heap.size w2 (w2.alloc (.cells #[.int .u8 98] 5 (1, 2))) := (Below.refl _ w2).alloc (Nat.le_refl _) _
  have H2a := Lib.hid (hp2.below hb2a)
  have HB2a := Lib.hid (bmore HB2.out hb2a HB2.out.size)
  have HR2 : Hid (Reads (w2.alloc (.cells #[.int .u8 98] 5 (1, 2))) 1 (.slice (some ⟨w2.heap.size, 0, none⟩) 1 1) 1 (u8s [98])) := reads_newm w2 #[.int .u8 98] 5 (1, 2) 1 rfl (by omega)
  clear hb2a hp2 hm1 H2
  go_wp2_with fail
  generalize w2.alloc (.cells #[.int .u8 98] 5 (1, 2)) = w2a at *
  refine (HPA.out b _ [m1] 2 3 _ 1 1 [98] w2a H2a.out (by simp) (by omega) HR2.out rfl).mono ?_
  rintro e w3 ⟨rfl, r2⟩
  have hE2 : putE [m1] 2 3 1 = 0 := by unfold putE; simp
  rw [hE2]
  have H3 : Hid (∃ v m2, PAt NoR w3 (Far w (fun _ => False)) b v [m2, m1] 2 ∧ m2.due = 3 ∧ m2.bs = [98]) := by
    obtain ⟨v', l', h1, h2⟩ := r2.far HB2a.out.size (fun q e => e.elim)
    rcases h2 with ⟨h2, -⟩ | ⟨-, m, h2, h3, h4⟩
    · exact absurd hE2 h2
    · have hd : dueN [m1] 3 = 0 := by unfold dueN; rw [List.takeWhile_cons_of_neg (by simp [HM1.out])]; rfl
      rw [hd] at h2
      subst h2
      exact ⟨v', m, h1, h3, h4⟩
  have HB3 := Lib.hid (bkeep HB2a.out r2.kp (Nat.le_refl _) (fun q h => h.1))
  clear r2 hE2 H2a HB2 HB2a HR2 HP2
  obtain ⟨v3, m2, hp3, hm2, hm2b⟩ := H3.out
  have HP3 := Lib.hid hp3
  have HM2 : Hid (m2.due = 3 ∧ m2.bs = [98]) := ⟨hm2, hm2b⟩
  have HPF := Lib.hid (put_full b v3 [m2, m1] 2 1 none 0 0 w3 hp3 (by simp) (by omega) (by omega) (by omega) (by omega) (by simp))
  clear hp3 hm2 hm2b H3
  go_wp2_with fail
  refine HPF.out.mono ?_
  rintro e w4 ⟨rfl, hb4⟩
  have HP4 := Lib.hid (HP3.out.below hb4)
  have HB4 := Lib.hid (bmore HB3.out hb4 HB3.out.size)
  clear hb4 HPF HP3 HB3
  have hb5 : Below w4.heap.size w4 (w4.alloc (.cells #[.string { data := #[] }] 9)) := (Below.refl _ w4).alloc (Nat.le_refl _) _
  have HP5 : Hid (PAt NoR (w4.alloc (.cells #[.string { data := #[] }] 9)) (fun q => w.heap.size ≤ q ∧ q < w4.heap.size) b v3 [m2, m1] 2) := (HP4.out.mono (fun q hq hl => ⟨hq.1, hl⟩)).below hb5
  have HB5 := Lib.hid (bmore HB4.out hb5 HB4.out.size)
  have HG5 := Lib.hid (Blk.new w4 #[.string { data := #[] }] 9)
  have HZ5 : Hid (w.heap.size ≤ w4.heap.size) := HB4.out.size
  clear hb5
  go_wp2_with fail
  generalize w4.alloc (.cells #[.string { data := #[] }] 9) = w5 at *
  clear HP4 HB4 HNY HPA kc
  generalize w4.heap.size = pG at *
  refine (take_any b 4 w5).mono ?_
  rintro e w6 ⟨rfl, hpb, hpn, hb6⟩
  have HPB := Lib.hid hpb
  have HPN := Lib.hid hpn
  have HP6 := Lib.hid (HP5.out.below hb6)
  have HG6 := Lib.hid (HG5.out.below hb6)
  have HB6 := Lib.hid (bmore HB5.out hb6 HB5.out.size)
  have HL5 : Hid (pG < w5.heap.size) := HG5.out.lt
  have HL6 : Hid (w5.heap.size + 1 < w6.heap.size) := hpn.lt
  clear hpb hpn hb6 HP5 HG5 HB5
  have HSEQ := Lib.hid (take_seq (9 - 1) (by omega) w5.heap.size (w5.heap.size + 1) b v3.ownBlock [m2, m1] 2 4 (fun q => w.heap.size ≤ q ∧ q < pG) (fun q => q = pG ∨ w6.heap.size ≤ q) w6
    (fun q hq => by have hq := hq.elim id (fun x => x.elim); exact ⟨fun e => by have := HL5.out; have := HL6.out; omega, by have := HL5.out; have := HL6.out; omega⟩) HP6.out.gb HP6.out.gv
    ⟨fun e => by have := HL5.out; omega, fun e => by have := HL5.out; have := HL6.out; omega⟩ ⟨fun e => by have := HL5.out; omega, fun e => by have := HL5.out; have := HL6.out; omega⟩ (by simp) HPB.out HPN.out ⟨v3, HP6.out, rfl⟩)
  have hdn : dueN [m2, m1] 4 = 1 := by
    unfold dueN
    rw [List.takeWhile_cons_of_pos (by simp [HM2.out.1]), List.takeWhile_cons_of_neg (by simp [HM1.out])]
    rfl
  have HDN := Lib.hid hdn
  clear hdn
  go_wp2_with fail
  refine (wpIn_wide (n := 9)).1 ?_
  refine' wpIn_rangeOwnY (F := Fence.wide) (n := 9) rfl (by omega) (gf := 28) (lb := #[.pointer (some ⟨w5.heap.size, 0, none⟩), .pointer (some ⟨w5.heap.size + 1, 0, none⟩)]) rfl trivial (enters_of Try.func28 (by kernel_rfl) rfl)
    HSEQ.out (fun pre x N W l o o' h hl ho hc => h.turn ho hc) (fun h k => h.trans k) (fun W l o o' hl ho hc => keepC_turn ho hc _)
    (fun q hq => by have h1 := HL5.out; have h2 := HL6.out; exact hq.elim (fun e => by have := HP6.out.gb.2; omega) (fun e => by have := (HP6.out.gv q e).2; omega)) (fun _ => rfl)
    (fun xs W l o o' h hl ho hc => ⟨h.1.turn ho hc, h.2⟩) (fun pre W l o o' h hl ho hc => ⟨h.1.turn ho hc, h.2⟩)
    (fun pre W => Blk W pG #[.string (if pre.length = 0 then { data := #[] } else { data := #[98] })] 9 ∧ Below w.heap.size w W) (fun _ _ _ => False)
    (fun pre W l o o' h hl ho hc => ⟨blk_turn h.1 ho hc, below_turn h.2 (Nat.le_trans HB6.out.size hl)⟩) (fun c pre W l o o' h _ _ _ => h)
    (fun pre A B h k => ⟨h.1.keep k (fun e => e.elim (fun e => by have := HP6.out.gb.2; omega) (fun e => by have := (HP6.out.gv _ e).2; omega)), bkeep h.2 k (Nat.le_refl _) (fun q hq => hq.elim (fun e => by rw [e]; exact HP6.out.gb.1) (fun e => (HP6.out.gv q e).1))⟩)
    ⟨HG6.out, HB6.out⟩ _ ?assign ?body ?done ?stop
  case assign =>
    intro l x W K hK
    gi_wp2
    exact hK
  case body =>
    rintro l pre x W0 W - - ⟨hkg, hbw⟩ hy
    obtain ⟨⟨m, hm, hmd, hxb⟩, hyo, hyl, hyn, hyt⟩ := hy
    have hp0 : pre = [] ∧ m = m2 := by
      rcases pre with _ | ⟨a, _ | ⟨b', t⟩⟩
      · simp at hm; exact ⟨rfl, hm.symm⟩
      · simp at hm; rw [← hm, HM1.out] at hmd; omega
      · simp at hm
    obtain ⟨rfl, rfl⟩ := hp0
    have hcv := conv_ints (Reads.of_owns hyo)
    rw [hxb, HM2.out.2, str_b] at hcv
    have c0 : W.cell? ⟨pG, 0, none⟩ = some (.string { data := #[] }) := hkg.cell 0 rfl
    have f0 := hkg.frozen 0
    have HS1 : Hid (Blk (W.setCell ⟨pG, 0, none⟩ (.string { data := #[98] })) pG #[.string { data := #[98] }] 9) := hkg.set' rfl
    have HS2 : Hid (Below w.heap.size w (W.setCell ⟨pG, 0, none⟩ (.string { data := #[98] }))) := hbw.setCell (p := ⟨pG, 0, none⟩) HZ5.out _
    have HS3 : Hid (KeepsOthers W (W.setCell ⟨pG, 0, none⟩ (.string { data := #[98] }))) := KeepsOthers.setCell _ _ _
    have HS4 : Hid (KeepC (fun q => q = pG ∨ w6.heap.size ≤ q) W (W.setCell ⟨pG, 0, none⟩ (.string { data := #[98] }))) := (KeepC.refl _ W).setCell (p := ⟨pG, 0, none⟩) (.inl rfl) _
    clear hm hmd hxb hyo hyl hyn hyt hkg hbw
    gi_wp2
    exact ⟨HS3.out, HS4.out, HS1.out, HS2.out⟩
  case done =>
    rintro D xs W hD ⟨hT, hxs⟩ ⟨hkg, hbw⟩ hK
    rw [HDN.out] at hxs
    rw [hxs] at hkg hT
    obtain ⟨v7, hp7, -⟩ := hT
    have HP7 : Hid (PAt NoR W (fun q => w.heap.size ≤ q ∧ q < pG) b v7 [m1] 2) := hp7
    have HKD := Lib.hid hK
    have HBW := Lib.hid hbw
    have c0 : W.cell? ⟨pG, 0, none⟩ = some (.string { data := #[98] }) := hkg.cell 0 rfl
    have HLN := Lib.hid (fun w' h => len_any b v7 [m1] 2 w' (HP7.out.below (w' := w') h))
    have HWD : Hid (w.heap.size ≤ D) := Nat.le_trans HB6.out.size hD
    clear hxs hp7 hkg hbw hK hD
    go_wp2_with fail
    refine (HNN.out _).mono ?_
    rintro e W ⟨rfl, rfl⟩
    go_wp2_with fail
    refine (HLN.out _ (Below.refl _ _)).mono ?_
    rintro e W ⟨rfl, rfl⟩
    go_wp2
    refine ⟨by simp, .inl ⟨_, _, rfl, run_takeDeferred HKD.out, ?_⟩⟩
    refine ⟨.bool true, ?_, rfl, below_turn HBW.out HWD.out⟩
    simp [results, Try.f8, go_sem]
  case stop =>
    rintro D c pre W hD hSp hx hK
    exact hx.elim
end Go.Proofs.Ytijmmmgmpfhgoaa
