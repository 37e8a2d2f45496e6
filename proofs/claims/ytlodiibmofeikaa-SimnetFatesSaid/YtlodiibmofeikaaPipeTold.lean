/- pipe: Put of any; the iterator's sequence; the law's awake. -/
import Derived.Test.YtlodiibmofeikaaPipeTake
import Derived.Lib.SlBytesConst
import Derived.Laws.BytesArg
namespace Go.Proofs.Ytlodiibmofeikaa
open Go.RowKit Go.Shelf
attribute [local go_sem] Oper.semAt_some
set_option linter.unusedVariables false
set_option linter.unusedSimpArgs false

theorem conv_zero (w : World) (p : Option Addr) (c : Nat) : (convert 23 9 (.slice p 0 c)).run Try.prog w = .ok (.string (strOfNums [])) w := by
  rw [run_convert_bytes_string w _ _ _ _ 0 c Try.underlying23 Try.underlying5 Try.underlying9]
  cases p <;> simp [Conv.bytesToString, loadCells]
  all_goals rfl
theorem conv_ints {w : World} {A : Option Addr} {n c : Nat} {l : List Int} (h : Reads w 1 (.slice A n c) n (u8s l)) :
    (convert 23 9 (.slice A n c)).run Try.prog w = .ok (.string (strOfNums l)) w := by
  have hl : l.length = n := by have := h.len; unfold u8s at this; rw [List.length_map] at this; omega
  rcases Nat.eq_zero_or_pos n with hn | hn
  · subst hn
    obtain rfl : l = [] := List.eq_nil_of_length_eq_zero hl
    exact conv_zero w A c
  · obtain ⟨B, o, c', he, -⟩ := h.at 0 (.int .u8 (l[0]'(by omega))) (by unfold u8s; rw [List.getElem?_map, List.getElem?_eq_getElem (by omega)]; rfl)
    cases he
    refine run_convert_bytes_arg (P := Try.prog) w _ _ Try.underlying23 Try.underlying5 B o n c l hl (fun i hi => ?_) _ Try.underlying9
    obtain ⟨B', o', c', he, hc⟩ := h.at i (.int .u8 (l[i]'(by omega))) (by unfold u8s; rw [List.getElem?_map, List.getElem?_eq_getElem (by omega)]; rfl)
    cases he
    rw [hc]
    simp [show i < l.length by omega]
theorem reads_newm (w : World) (cs : Array Value) (E : TypeId) (fr : Nat × Nat) (n : Nat) (h : cs.size = n) (hn : n ≤ 1000000) : Reads (w.alloc (.cells cs E fr)) 1 (.slice (some ⟨w.heap.size, 0, none⟩) n n) n cs.toList :=
  ⟨by simpa using h, _, n, rfl, Nat.le_refl _, by unfold maxLen; omega, fun ha => (by cases ha), fun a ha _ => by cases ha; exact ⟨rfl, by simp⟩, fun j u hu => ⟨_, rfl, by
    rw [Nat.zero_add, cell_of_row _ _ _ _ _ _ (heap_alloc_new w _)]; simpa using hu⟩⟩
def putE (l : List Msg) (room due : Int) (n : Nat) : Int := if due < 0 ∨ 2199023255552 < due ∨ 320 < n then 11 else if room ≤ l.length then 15 else 0
/-- what Put leaves -/
structure PutR (R : Nat → Prop) (w w' : World) (G : Nat → Prop) (b : Nat) (l : List Msg) (room due : Int) (n : Nat) (bs : List Int) : Prop where
  ex : ∃ v' l', PAt R w' (fun q => G q ∨ w.heap.size ≤ q) b v' l' room ∧ ((putE l room due n ≠ 0 ∧ l' = l) ∨ (putE l room due n = 0 ∧ ∃ m, l' = put1 l (dueN l due) m ∧ m.due = due ∧ m.bs = bs))
  kp : Keep G w w'
theorem put_any {R : Nat → Prop} {G : Nat → Prop} (b : Nat) (v : Value) (l : List Msg) (room due : Int) (A0 : Option Addr) (n c : Nat) (bs : List Int) (w : World) (h : PAt R w G b v l room) (hn : l.length ≤ 100000) (hr : 0 ≤ room ∧ room ≤ 1000) (hx : Reads w 1 (.slice A0 n c) n (u8s bs)) (hb : bs.length = n) :
    Calls Try.prog 56 #[.pointer (some ⟨b, 0, none⟩), .int .i64 due, .slice A0 n c] w fun e w' => e = .returned (.int .i64 (putE l room due n)) ∧ PutR R w w' G b l room due n bs := by
  by_cases h1 : due < 0 ∨ 2199023255552 < due ∨ 320 < n
  · have he : putE l room due n = 11 := if_pos h1
    rw [he]
    refine (put_range (G := G) b v l room due A0 n c w h1).mono ?_
    rintro e w' ⟨rfl, rfl⟩
    exact ⟨rfl, ⟨v, l, h.mono (fun q hq _ => .inl hq), .inl ⟨by rw [he]; decide, rfl⟩⟩, Keep.refl _ _⟩
  · by_cases h2 : room ≤ l.length
    · have he : putE l room due n = 15 := by unfold putE; rw [if_neg h1, if_pos h2]
      rw [he]
      refine (put_full b v l room due A0 n c w h (by omega) hr (by omega) (by omega) (by omega) h2).mono ?_
      rintro e w' ⟨rfl, hb'⟩
      exact ⟨rfl, ⟨v, l, (h.below hb').mono (fun q hq _ => .inl hq), .inl ⟨by rw [he]; decide, rfl⟩⟩, Keep.ofBelowAll hb'⟩
    · have he : putE l room due n = 0 := by unfold putE; rw [if_neg h1, if_neg h2]
      rw [he]
      refine (put_ok b v l room due A0 n c bs w h (by omega) hr (by omega) (by omega) (by omega) (by omega) hx hb).mono ?_
      rintro e w' ⟨rfl, v', m, h3, h4, h5, h6, h7⟩
      exact ⟨rfl, ⟨v', _, h3, .inr ⟨he, m, rfl, h4, h5⟩⟩, h7⟩
/-- the iterator as its caller sees it -/
theorem take_seq {R : Nat → Prop} (n0 : Nat) (hn0 : 1 ≤ n0) (pB pN b : Nat) (ob : Option Nat) (l : List Msg) (room now : Int) (G Sx : Nat → Prop) (w : World)
    (hG : ∀ q, G q ∨ R q → ¬ Sx q ∧ q < w.heap.size) (hGb : G b) (hGo : ∀ g, ob = some g → G g) (hpB : ¬ G pB ∧ ¬ Sx pB) (hpN : ¬ G pN ∧ ¬ Sx pN) (hll : l.length ≤ 100000)
    (hB : Blk w pB #[.pointer (some ⟨b, 0, none⟩)] 71) (hNw : Blk w pN #[.int .i64 now] 3) (hS : PTook R G b ob l room 0 w) :
    SeqOwnY Fence.wide n0 Try.prog 46 #[.pointer (some ⟨pB, 0, none⟩), .pointer (some ⟨pN, 0, none⟩)] (fun x : Yd => #[.slice x.A x.n x.c]) (KeepC Sx) (fun q => q = b ∨ ob = some q)
      (YdOk R G b ob l room now) (fun xs W => PTook R G b ob l room xs.length W ∧ xs.length = dueN l now) (fun pre W => PTook R G b ob l room pre.length W ∧ pre.length ≤ dueN l now) w :=
  fun lp J Jx W hW hJ hY h0 => take1_in n0 hn0 lp pB pN b w.heap.size ob l room now G Sx J Jx W hW.size hG hGb hGo ⟨hpB.1, hpB.2, hB.lt⟩ ⟨hpN.1, hpN.2, hNw.lt⟩ hll hJ hY (hB.below hW) (hNw.below hW) (hS.keep (Keep.none hW) (fun _ _ => id)) h0
theorem PTook.turn {R : Nat → Prop} {G : Nat → Prop} {b : Nat} {ob : Option Nat} {l : List Msg} {room : Int} {k : Nat} {W : World} (h : PTook R G b ob l room k W) {q : Nat} {o o' : Obj} (ho : W.heap[q]? = some o) (hc : o.isCells = false) : PTook R G b ob l room k (W.putObj q o') := by
  have hk : KeepC (fun _ => False) W (W.putObj q o') := by
    refine ⟨by simp, fun k cs T _ hk => ?_⟩
    by_cases e : k = q
    · subst e
      rw [hk] at ho
      cases ho
      cases hc
    · exact (World.putObj_heap_other e).trans hk
  exact h.keepC hk (fun _ _ => id)
theorem keepC_turn {W : World} {q : Nat} {o o' : Obj} (ho : W.heap[q]? = some o) (hc : o.isCells = false) (S : Nat → Prop) : KeepC S W (W.putObj q o') := by
  refine ⟨by simp, fun k cs T _ hk => ?_⟩
  by_cases e : k = q
  · subst e
    rw [hk] at ho
    cases ho
    cases hc
  · exact (World.putObj_heap_other e).trans hk
theorem YdOk.turn {R : Nat → Prop} {N0 : Nat} {G : Nat → Prop} {b : Nat} {ob : Option Nat} {l : List Msg} {room now : Int} {pre : List Yd} {x : Yd} {W : World} (h : YdOk R G b ob l room now pre x N0 W) {q : Nat} {o o' : Obj} (ho : W.heap[q]? = some o) (hc : o.isCells = false) : YdOk R G b ob l room now pre x N0 (W.putObj q o') :=
  ⟨h.1, (keepC_turn ho hc (fun _ => False)).row h.2.1 (fun _ _ => id), h.2.2.1, h.2.2.2.1, h.2.2.2.2.turn ho hc⟩
/-- from a base world on, but for some boxes -/
def NoR : Nat → Prop := fun _ => False
def Far (w0 : World) (X : Nat → Prop) (q : Nat) : Prop := w0.heap.size ≤ q ∧ ¬ X q
theorem PAt.far {R : Nat → Prop} {w0 w w' : World} {X : Nat → Prop} {b : Nat} {v : Value} {l : List Msg} {room : Int} (h : PAt R w' (fun q => Far w0 X q ∨ w.heap.size ≤ q) b v l room) (h0 : w0.heap.size ≤ w.heap.size) (hX : ∀ q, X q → q < w.heap.size) : PAt R w' (Far w0 X) b v l room :=
  h.mono (fun q hq _ => hq.elim id (fun x => ⟨Nat.le_trans h0 x, fun e => by have := hX q e; omega⟩))
theorem PutR.far {R : Nat → Prop} {w0 w w' : World} {X : Nat → Prop} {b : Nat} {l : List Msg} {room due : Int} {n : Nat} {bs : List Int} (h : PutR R w w' (Far w0 X) b l room due n bs) (h0 : w0.heap.size ≤ w.heap.size) (hX : ∀ q, X q → q < w.heap.size) :
    ∃ v' l', PAt R w' (Far w0 X) b v' l' room ∧ ((putE l room due n ≠ 0 ∧ l' = l) ∨ (putE l room due n = 0 ∧ ∃ m, l' = put1 l (dueN l due) m ∧ m.due = due ∧ m.bs = bs)) := by
  obtain ⟨⟨v', l', h1, h2⟩, -⟩ := h
  exact ⟨v', l', h1.far h0 hX, h2⟩
theorem below_turn {B : Nat} {w0 W : World} {q : Nat} {o' : Obj} (h : Below B w0 W) (hq : B ≤ q) : Below B w0 (W.putObj q o') := h.trans ⟨rfl, rfl, rfl, by simp, fun k hk => World.putObj_heap_other (by omega)⟩
theorem blk_turn {W : World} {b : Nat} {cs : Array Value} {T : TypeId} (h : Blk W b cs T) {q : Nat} {o o' : Obj} (ho : W.heap[q]? = some o) (hc : o.isCells = false) : Blk (W.putObj q o') b cs T :=
  (keepC_turn ho hc (fun _ => False)).blk h id
end Go.Proofs.Ytlodiibmofeikaa
