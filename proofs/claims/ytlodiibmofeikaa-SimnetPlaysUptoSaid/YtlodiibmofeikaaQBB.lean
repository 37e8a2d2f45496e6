/- pipe: a pipe in memory; New, Len, Room, Due. -/
import Derived.Test.YtlodiibmofeikaaQAA
import Derived.BigQuiet
import Derived.StillTail
import Derived.Deep.RegionHeld3
import Derived.RangeFuncNested
import Derived.RangeFuncBound
import Derived.RangeFuncCalls
import Derived.RangeFuncLeaves
import Derived.RangeFuncBox
import Derived.Shelf.Abstract
import Derived.Shelf.RegionOpen
import Derived.WalkKit
import Derived.OwnWalkIn
import Derived.TacticsInMore
import Derived.LoopNIn
import Derived.LoopIn
import Derived.Lib.SlBytesConst
import Derived.Laws.BytesArg
namespace Go.Proofs.Ytlodiibmofeikaa
section
open Go.RowKit
set_option linter.unusedVariables false
set_option linter.unusedSimpArgs false

def u8s (l : List Int) : List Value := l.map (Value.int .u8)
/-- a message's bytes -/
def MsgOk (w : World) (G : Nat → Prop) (m : Msg) : Prop := w.ownsRow 0 5 1 (.slice m.A m.n m.c) m.n (u8s m.bs) ∧ m.bs.length = m.n ∧ m.n ≤ 320 ∧ ∀ g, (Value.slice m.A m.n m.c).ownBlock = some g → G g
/-- a pipe, in blocks of G; G' are those of messages' bytes -/
structure PAt (R : Nat → Prop) (w : World) (G : Nat → Prop) (b : Nat) (v : Value) (l : List Msg) (room : Int) : Prop where
  str : Blk w b #[.int .i64 room, v] 98
  row : w.ownsRow 0 102 2 v l.length (l.flatMap msgCells)
  by' : ∀ m ∈ l, MsgOk w (fun q => (G q ∨ R q) ∧ q ≠ b ∧ v.ownBlock ≠ some q) m
  gb : G b
  gv : ∀ g, v.ownBlock = some g → G g
theorem MsgOk.keep {S G : Nat → Prop} {w w' : World} {m : Msg} (h : MsgOk w G m) (hk : Keep S w w') (hs : ∀ q, G q → ¬ S q) : MsgOk w' G m :=
  ⟨ownsRow_keep h.1 hk (fun g hg => hs g (h.2.2.2 g hg)), h.2⟩
theorem MsgOk.mono {G G' : Nat → Prop} {w : World} {m : Msg} (h : MsgOk w G m) (hs : ∀ q, G q → q < w.heap.size → G' q) : MsgOk w G' m := ⟨h.1, h.2.1, h.2.2.1, fun g hg => hs g (h.2.2.2 g hg) (h.1.lt g hg).2⟩
theorem PAt.keep {R : Nat → Prop} {S G : Nat → Prop} {w w' : World} {b : Nat} {v : Value} {l : List Msg} {room : Int} (h : PAt R w G b v l room) (hk : Keep S w w') (hs : ∀ q, G q ∨ R q → ¬ S q) : PAt R w' G b v l room :=
  ⟨h.str.keep hk (hs b (.inl h.gb)), ownsRow_keep h.row hk (fun g hg => hs g (.inl (h.gv g hg))), fun m hm => (h.by' m hm).keep hk (fun q hq => hs q hq.1), h.gb, h.gv⟩
theorem PAt.below {R : Nat → Prop} {G : Nat → Prop} {w w' : World} {b : Nat} {v : Value} {l : List Msg} {room : Int} (h : PAt R w G b v l room) (hb : Below w.heap.size w w') : PAt R w' G b v l room := h.keep (Keep.none hb) (fun _ _ => id)
theorem PAt.mono {R : Nat → Prop} {G G' : Nat → Prop} {w : World} {b : Nat} {v : Value} {l : List Msg} {room : Int} (h : PAt R w G b v l room) (hs : ∀ q, G q → q < w.heap.size → G' q) : PAt R w G' b v l room :=
  ⟨h.str, h.row, fun m hm => (h.by' m hm).mono (fun q hq hl => ⟨hq.1.imp (fun x => hs _ x hl) id, hq.2⟩), hs b h.gb h.str.lt, fun g hg => hs g (h.gv g hg) (h.row.lt g hg).2⟩
theorem PAt.slice {R : Nat → Prop} {G : Nat → Prop} {w : World} {b : Nat} {v : Value} {l : List Msg} {room : Int} (h : PAt R w G b v l room) : ∃ A k, v = .slice A l.length k := ownsRow_slice h.row
theorem PAt.msgs {R : Nat → Prop} {G : Nat → Prop} {w : World} {b : Nat} {v : Value} {l : List Msg} {room : Int} (h : PAt R w G b v l room) : MsgsAt w v l := Reads.of_owns h.row
theorem PAt.ne {R : Nat → Prop} {G : Nat → Prop} {w : World} {b : Nat} {v : Value} {l : List Msg} {room : Int} (h : PAt R w G b v l room) {g : Nat} (hg : v.ownBlock = some g) : g ≠ b ∧ g < w.heap.size := by
  rcases h.row.2 with ⟨rfl, _⟩ | ⟨g', cap, cur, rfl, h1, hh, _⟩
  · cases hg
  · cases hg
    refine ⟨fun e => ?_, (Array.getElem?_eq_some_iff.1 hh).1⟩
    subst e
    have := h.str
    unfold Blk at this
    rw [hh] at this
    cases this
theorem blk2 {w : World} {b : Nat} {v0 v1 : Value} {T : TypeId} (h : Blk w b #[v0, v1] T) : w.cell? ⟨b, 0, none⟩ = some v0 ∧ w.cell? ⟨b, 1, none⟩ = some v1 := ⟨h.cell 0 rfl, h.cell 1 rfl⟩
/-- how many are due -/
def dueN (l : List Msg) (now : Int) : Nat := (l.takeWhile (fun m => decide (m.due ≤ now))).length
theorem dueN_le (l : List Msg) (now : Int) : dueN l now ≤ l.length := (List.takeWhile_sublist _).length_le
theorem dueN_lt {l : List Msg} {now : Int} {k : Nat} {m : Msg} (hk : k < dueN l now) (hm : l[k]? = some m) : m.due ≤ now := by
  induction l generalizing k with
  | nil => cases hm
  | cons a t ih =>
    unfold dueN at hk
    by_cases ha : a.due ≤ now
    · rw [List.takeWhile_cons_of_pos (by simpa using ha)] at hk
      cases k with
      | zero => cases hm; exact ha
      | succ k => exact ih (by unfold dueN; simpa using hk) (by simpa using hm)
    · rw [List.takeWhile_cons_of_neg (by simpa using ha)] at hk
      simp at hk
theorem dueN_at {l : List Msg} {now : Int} {m : Msg} (hm : l[dueN l now]? = some m) : now < m.due := by
  induction l with
  | nil => cases hm
  | cons a t ih =>
    unfold dueN at hm
    by_cases ha : a.due ≤ now
    · rw [List.takeWhile_cons_of_pos (by simpa using ha)] at hm
      exact ih (by unfold dueN; simpa using hm)
    · rw [List.takeWhile_cons_of_neg (by simpa using ha)] at hm
      cases hm
      omega
theorem dueN_eq {l : List Msg} {now : Int} {k : Nat} {m : Msg} (hm : l[k]? = some m) (h1 : now < m.due) (h2 : k ≤ dueN l now) : k = dueN l now := by
  rcases Nat.lt_or_ge k (dueN l now) with h | h
  · have := dueN_lt h hm; omega
  · omega
set_option maxRecDepth 100000 in
theorem duec_any (o : Msg) (pb : Nat) (now : Int) (w : World) (h : Blk w pb #[.int .i64 now] 3) : Calls Try.prog 67 #[.agg #[.int .i64 o.due, .slice o.A o.n o.c], .pointer (some ⟨pb, 0, none⟩)] w fun e w' => e = .returned (.bool (decide (now < o.due))) ∧ Below w.heap.size w w' := by
  have hb : Below w.heap.size w (w.alloc (.cells #[.int .i64 o.due, .slice o.A o.n o.c] 102)) := (Below.refl _ w).alloc (Nat.le_refl _) _
  have c0 := (h.below hb).cell 0 rfl
  have hl := h.lt
  have hn : ¬ pb = w.heap.size := by omega
  have hn' : ¬ w.heap.size = pb := by omega
  go_enter Try.func67, Try.ntmps67
  go_wp2
  go_ret
  exact ⟨rfl, hb⟩
set_option maxRecDepth 100000 in
set_option maxHeartbeats 400000 in
theorem idx_any (v : Value) (l : List Msg) (pb : Nat) (now : Int) (w : World) (h : MsgsAt w v l) (hp : Blk w pb #[.int .i64 now] 3) (hn : l.length ≤ 1000000) :
    Calls Try.prog 66 #[v, .func (.func 67) #[] #[.pointer (some ⟨pb, 0, none⟩)]] w fun e w' => e = .returned (.int .i64 (if dueN l now < l.length then (dueN l now : Int) else -1)) ∧ Below w.heap.size w w' := by
  obtain ⟨A, c, rfl, -⟩ := h.val
  obtain ⟨r, hr⟩ : ∃ r : Int, r = if dueN l now < l.length then (dueN l now : Int) else -1 := ⟨_, rfl⟩
  rw [← hr]
  have HR := Lib.hid hr
  have H := Lib.hid h
  have HP := Lib.hid hp
  clear h hp hr
  go_enter Try.func66, Try.ntmps66
  go_wp2
  go_loopw [8] (fun i wr => ∃ k : Nat, i = .int .i64 k ∧ k ≤ l.length ∧ Hid (k ≤ dueN l now) ∧ Hid (Below w.heap.size w wr)) (fun i _ => l.length - (intOf i).toNat)
  case atStart => exact ⟨0, rfl, by omega, Nat.zero_le _, Below.refl _ _⟩
  case round =>
    obtain ⟨k, rfl, hk, HD, HB⟩ := hrel
    by_cases hlt : k < l.length
    · obtain ⟨o, ho⟩ : ∃ o, l[k]? = some o := ⟨_, List.getElem?_eq_getElem hlt⟩
      obtain ⟨g, p, c', he, o0, o1⟩ := MsgsAt.at (Reads.below H.out HB.out) ho
      cases he
      have HO := Lib.hid ho
      have i1 : (0 : Int) ≤ (k : Int) := by omega
      have i2 : (k : Int) < (l.length : Int) := by omega
      have HPR := Lib.hid (HP.out.below HB.out)
      clear ho
      go_wp2_with fail
      refine (duec_any o pb now _ HPR.out).mono ?_
      rintro e w1 ⟨rfl, hb1⟩
      have HB1 := Lib.hid (bmore HB.out hb1 HB.out.size)
      clear hb1 o0 o1
      by_cases hc : now < o.due
      · have e1 := dueN_eq HO.out hc HD.out
        obtain rfl : r = (k : Int) := by rw [HR.out, if_pos (by omega), ← e1]
        have t1 : decide (now < o.due) = true := decide_eq_true hc
        clear e1
        go_wp2
        go_ret
        exact ⟨rfl, HB1.out⟩
      · have t1 : decide (now < o.due) = false := decide_eq_false hc
        have HD2 : Hid (k + 1 ≤ dueN l now) := by
          show _ ≤ _
          rcases Nat.lt_or_ge k (dueN l now) with h | h
          · omega
          · have e1 : k = dueN l now := Nat.le_antisymm HD.out h
            exact absurd (dueN_at (by rw [← e1]; exact HO.out)) hc
        go_wp2
        go_roundw
        case rel => exact ⟨k + 1, by go_num, by omega, HD2, HB1⟩
        case measure => simp [intOf]; omega
    · obtain rfl : k = l.length := by omega
      obtain rfl : r = -1 := by rw [HR.out, if_neg (by have := HD.out; omega)]
      go_wp2
      go_ret
      exact ⟨rfl, HB.out⟩
set_option maxRecDepth 100000 in
theorem due_any {R : Nat → Prop} {G : Nat → Prop} (b : Nat) (v : Value) (l : List Msg) (room now : Int) (w : World) (h : PAt R w G b v l room) (hn : l.length ≤ 1000000) :
    Calls Try.prog 63 #[.pointer (some ⟨b, 0, none⟩), .int .i64 now] w fun e w' => e = .returned (.int .i64 (dueN l now)) ∧ Below w.heap.size w w' := by
  obtain ⟨A, k, rfl⟩ := h.slice
  have hb : Below w.heap.size w (w.alloc (.cells #[.int .i64 now] 3)) := (Below.refl _ w).alloc (Nat.le_refl _) _
  have HB := Lib.hid hb
  have HN := Lib.hid (Blk.new w #[.int .i64 now] 3)
  have HP := Lib.hid (h.below hb)
  obtain ⟨c0, c1⟩ := blk2 HP.out.str
  have HI := Lib.hid (idx_any (.slice A l.length k) l w.heap.size now _ HP.out.msgs HN.out hn)
  have hdl := dueN_le l now
  obtain ⟨d, hd⟩ : ∃ d, d = dueN l now := ⟨_, rfl⟩
  rw [← hd] at hdl HI ⊢
  clear h hb hd
  go_enter Try.func63, Try.ntmps63
  go_wp2_with fail
  refine HI.out.mono ?_
  rintro e w1 ⟨rfl, hb1⟩
  have HB1 := Lib.hid (bmore HB.out hb1 HB.out.size)
  have HP1 := Lib.hid (HP.out.below hb1)
  clear hb1 c0 c1
  obtain ⟨c0, c1⟩ := blk2 HP1.out.str
  by_cases hc : d < l.length
  · have hi : (if d < l.length then (d : Int) else -1) = d := if_pos hc
    rw [hi]
    have t1 : ¬ (d : Int) < 0 := by omega
    go_wp2
    go_ret
    exact ⟨rfl, HB1.out⟩
  · have hi : (if d < l.length then (d : Int) else -1) = -1 := if_neg hc
    rw [hi]
    obtain rfl : d = l.length := by omega
    clear hi hc
    go_wp2
    go_ret
    exact ⟨rfl, HB1.out⟩
set_option maxRecDepth 100000 in
theorem len_any {R : Nat → Prop} {G : Nat → Prop} (b : Nat) (v : Value) (l : List Msg) (room : Int) (w : World) (h : PAt R w G b v l room) :
    Calls Try.prog 33 #[.pointer (some ⟨b, 0, none⟩)] w fun e w' => e = .returned (.int .i64 l.length) ∧ w = w' := by
  obtain ⟨A, k, rfl⟩ := h.slice
  obtain ⟨c0, c1⟩ := blk2 h.str
  clear h
  go_enter Try.func33, Try.ntmps33
  go_wp2
  go_ret
  exact ⟨rfl, rfl⟩
set_option maxRecDepth 100000 in
theorem room_any {R : Nat → Prop} {G : Nat → Prop} (b : Nat) (v : Value) (l : List Msg) (room : Int) (w : World) (h : PAt R w G b v l room) (hn : l.length ≤ 1000000) (hr : 0 ≤ room ∧ room ≤ 1000) :
    Calls Try.prog 61 #[.pointer (some ⟨b, 0, none⟩)] w fun e w' => e = .returned (.int .i64 (room - l.length)) ∧ Below w.heap.size w w' := by
  obtain ⟨A, k, rfl⟩ := h.slice
  obtain ⟨c0, c1⟩ := blk2 h.str
  have wr : IntKind.i64.wrap (room - (l.length : Int)) = room - (l.length : Int) := IntWalk.i64_in _ (by omega)
  clear h
  go_enter Try.func61, Try.ntmps61
  go_wp2_with fail
  go_quiet (fail)
  go_wp2
  go_ret
  exact ⟨rfl, below_drewN (Below.refl _ w) nq⟩
theorem new_ok {R : Nat → Prop} (room : Int) (w : World) (h1 : 1 ≤ room) (h2 : room ≤ 256) :
    Calls Try.prog 24 #[.int .i64 room] w fun e w' => ∃ b, e = .returned (.tuple #[.pointer (some ⟨b, 0, none⟩), .int .i64 0]) ∧ PAt R w' (fun q => w.heap.size ≤ q) b (.slice none 0 0) [] room ∧ Below w.heap.size w w' := by
  go_enter Try.func24, Try.ntmps24
  go_wp2
  go_ret2
  exact ⟨w.heap.size, rfl, ⟨Blk.new w _ _, World.ownsRow_nil _ _ _ _, fun m hm => (by cases hm), Nat.le_refl _, fun g hg => (by cases hg)⟩, (Below.refl _ w).alloc (Nat.le_refl _) _⟩
theorem pnew_no (room : Int) (w : World) (h : room < 1 ∨ 256 < room) :
    Calls Try.prog 24 #[.int .i64 room] w fun e w' => e = .returned (.tuple #[.pointer none, .int .i64 11]) ∧ w = w' := by
  rcases (by omega : room < 1 ∨ (1 ≤ room ∧ 256 < room)) with g | ⟨g, g'⟩
  all_goals
    go_enter Try.func24, Try.ntmps24
    go_wp2
    go_ret2
    exact ⟨rfl, rfl⟩
end
section
open Go.RowKit
set_option linter.unusedVariables false
set_option linter.unusedSimpArgs false

/-- all worlds that a world may become by making memory -/
theorem fam_of (w : World) : ∃ (G : Type) (_ : Nonempty G) (F : G → World), (∀ g, Below w.heap.size w (F g)) ∧ (∀ w', Below w.heap.size w w' → ∃ g, w' = F g) :=
  ⟨{w' : World // Below w.heap.size w w'}, ⟨⟨w, Below.refl _ w⟩⟩, Subtype.val, fun g => g.2, fun w' h => ⟨⟨w', h⟩, rfl⟩⟩
theorem wp_region_fam {P : Program} {G : Type} (F : G → World) {id : Nat} {Q : Exit → Act → World → Prop} {a : Act} {w : World} {l : List Oper} (hm : P.follows .mixedOrders = true) (hB : Region.lexB .any l.toArray = true)
    (hC : ∃ g, { w with drawn := w.drawn + 1 } = F g)
    (h : wpQuiet P l.toArray (fun w' => ∃ g, w' = F g) (fun a' => ∀ w', (∃ g, w' = F g) → Q .normal a' w') l a) : (Code.region id l.toArray true).wp P Q a w :=
  wp_region_quiet (C := fun w' => ∃ g, w' = F g) hm hB hC (by simpa using h)
theorem fam_call {P : Program} {G : Type} {F : G → World} {f : FuncId} {args : Array Value} {g : G} {v : Value} {w : World} (hF : ∀ g, Below w.heap.size w (F g)) (hG : ∀ w', Below w.heap.size w w' → ∃ g, w' = F g)
    (h : Calls P f args (F g) fun e w' => e = .returned v ∧ Below (F g).heap.size (F g) w') : Calls P f args (F g) fun e w' => e = .returned v ∧ ∃ g', w' = F g' :=
  h.mono fun _ _ ⟨he, hb⟩ => ⟨he, hG _ (bmore (hF g) hb (hF g).size)⟩
theorem fam_same {P : Program} {G : Type} {F : G → World} {f : FuncId} {args : Array Value} {g : G} {v : Value}
    (h : Calls P f args (F g) fun e w' => e = .returned v ∧ F g = w') : Calls P f args (F g) fun e w' => e = .returned v ∧ ∃ g', w' = F g' :=
  h.mono fun _ _ ⟨he, hw⟩ => ⟨he, g, hw.symm⟩
end
section
open Go.RowKit
set_option linter.unusedVariables false
set_option linter.unusedSimpArgs false

section
variable {P : Program} {ops : Array Oper} {md : Region.Mode} {Q : Exit → Act → World → Prop} {S : World → Prop} {t : Nat}
/-- whatever order is drawn: S stands behind each operation but number t -/
def HeldT (P : Program) (md : Region.Mode) (ops : Array Oper) (Q : Exit → Act → World → Prop) (S : World → Prop) (t : Nat) : Nat → Array Bool → Act → World → Prop
  | 0, ls, a, w => Region.ready md ops ls = [] ∧ Q .normal a w
  | f + 1, ls, a, w => (Region.ready md ops ls = [] → Q .normal a w) ∧ ∀ j ∈ Region.ready md ops ls,
      if j = t then wpOp P ops Q j (fun a' w' => wpAny P md ops Q f (ls.setIfInBounds j true) a' w') a w else wpOp P ops Q j (fun a' w' => S w' ∧ HeldT P md ops Q S t f (ls.setIfInBounds j true) a' w') a w
theorem heldT_any (f : Nat) : ∀ ls a w, HeldT P md ops Q S t f ls a w → wpAny P md ops Q f ls a w := by
  induction f with
  | zero => intro ls a w h; exact h
  | succ f ih =>
    intro ls a w h
    refine ⟨h.1, fun j hj => ?_⟩
    have hq := h.2 j hj
    split at hq
    · exact hq
    · exact wpOp_mono (fun a' w' hh => ih _ a' w' hh.2) hq
theorem heldT_first {i : Nat} {oi : Oper} {v : Value} (hi : ops[i]? = some oi) (hsel : ∀ (j : Nat) (o : Oper) cs b, ops[j]? = some o → o.op ≠ .select cs b) (hQ : ∀ c a w, Q (.panic c) (a.put oi.dst v) w → Q (.panic c) a w)
    (hw : Region.waitsFor md ops t i = true) (hit : i ≠ t) (f : Nat) :
    ∀ ls a w, (∀ j oj, ops[j]? = some oj → j ≠ i → ls.getD j true = false → (∀ e ∈ oj.after, Region.binds md e = true → e.on ≠ i) → oi.apart ops oj = true) →
      i ∈ Region.ready md ops ls → YieldsIf P ops S oi v a → S w → HeldT P md ops Q S t f (ls.setIfInBounds i true) (a.put oi.dst v) w → HeldT P md ops Q S t (f + 1) ls a w := by
  obtain ⟨ot, hot, d, hd, hdb, hdi⟩ := Region.waitsFor_spec hw
  have hnt : ∀ ls, i ∈ Region.ready md ops ls → ∀ j ∈ Region.ready md ops ls, j ≠ t := fun ls hr j hj e => by
    subst e
    obtain ⟨-, oj, hoj, hall⟩ := mem_ready.1 hj
    rw [hot] at hoj
    cases hoj
    have h1 := hall d hd hdb
    rw [hdi, getD_both (mem_ready.1 hr).1] at h1
    cases h1
  induction f with
  | zero =>
    intro ls a w _ hr hy hS h
    refine ⟨fun e => by simp [e] at hr, fun j hj => ?_⟩
    rw [if_neg (hnt ls hr j hj)]
    by_cases e : j = i
    · subst e; exact hy.wpOp hi hS ⟨hS, h⟩
    · have h1 := ready_mono hj e
      rw [h.1] at h1
      cases h1
  | succ f ih =>
    intro ls a w hap hr hy hS h
    refine ⟨fun e => by simp [e] at hr, fun j hj => ?_⟩
    rw [if_neg (hnt ls hr j hj)]
    by_cases e : j = i
    · subst e; exact hy.wpOp hi hS ⟨hS, h⟩
    · obtain ⟨hj0, oj, hoj, hall⟩ := mem_ready.1 hj
      have hwj : ∀ d ∈ oj.after, Region.binds md d = true → d.on ≠ i := fun d hd hb h' => by
        have h1 := hall d hd hb
        rw [h', getD_both (mem_ready.1 hr).1] at h1
        cases h1
      have h1 := h.2 j (ready_mono hj e)
      rw [if_neg (hnt ls hr j hj)] at h1
      refine wpOp_mono (fun a' w' hh => ⟨hh.2.1, ih (ls.setIfInBounds j true) a' w' (fun q oq hq hqi hq0 hqw => ?_) (ready_mono hr (fun h' => e h'.symm)) hh.1 hh.2.1 ?_⟩)
        (wpOp_putIf hoj (hap j oj hoj e hj0 hwj) (fun cs b => hsel i oi cs b hi) (fun cs b => hsel j oj cs b hoj) hQ hy h1)
      · by_cases ejq : j = q
        · subst ejq; exact hap j oq hq hqi hj0 hqw
        · rw [getD_set_ne true ejq] at hq0
          exact hap q oq hq hqi hq0 hqw
      · rw [Array.setIfInBounds_comm _ _ e]
        exact hh.2.2
theorem heldT_take {i : Nat} {oi : Oper} {v : Value} {f : Nat} {ls : Array Bool} {a : Act} {w : World} (hi : ops[i]? = some oi) (hs : Region.noSelect ops = true) (hf : Region.free md ops ls i = true) (hr : (Region.ready md ops ls).contains i = true) (hw : (Region.waitsFor md ops t i && i != t) = true)
    (hQ : ∀ c a w, Q (.panic c) (a.put oi.dst v) w → Q (.panic c) a w) (hy : YieldsIf P ops S oi v a) (hS : S w) (h : HeldT P md ops Q S t f (ls.setIfInBounds i true) (a.put oi.dst v) w) : HeldT P md ops Q S t (f + 1) ls a w := by
  simp only [Bool.and_eq_true, bne_iff_ne] at hw
  exact heldT_first hi (Region.noSelect_spec hs) hQ hw.1 hw.2 f ls a w (Region.free_spec hi hf) (by simpa using hr) hy hS h
theorem heldT_one {j : Nat} {o : Oper} {f : Nat} {ls : Array Bool} {a : Act} {w : World} (hr : Region.ready md ops ls = [j]) (hjt : (j != t) = true) (ho : ops[j]? = some o)
    (h : ∀ K' : Act → World → Prop, Shut (∀ a w, S w → (S w → HeldT P md ops Q S t f (ls.setIfInBounds j true) a w) → K' a w) → if Region.wanted o (yielded ops a.tmps) = true then Oper.wp P o a w K' Q else K' (a.put o.dst undef) w) : HeldT P md ops Q S t (f + 1) ls a w := by
  refine ⟨fun e => (by rw [hr] at e; cases e), fun q hq => ?_⟩
  rw [hr] at hq
  obtain rfl : q = j := by simpa using hq
  rw [if_neg (by simpa using hjt)]
  exact wpOp_step ho (fun K' hK => h K' (fun a w hS hW => hK a w ⟨hS, hW hS⟩))
/-- an operation that no world touches may come up beside number t: it is taken first -/
theorem heldT_both {i : Nat} {oi : Oper} {v : Value} {f : Nat} {ls : Array Bool} {a : Act} {w : World} (hi : ops[i]? = some oi) (hs : Region.noSelect ops = true) (hf : Region.free md ops ls i = true) (hr : Region.ready md ops ls = [i, t]) (hit : (i != t) = true)
    (hQ : ∀ c a w, Q (.panic c) (a.put oi.dst v) w → Q (.panic c) a w) (hy : Yields P ops oi v a) (hS : S w) (h : HeldT P md ops Q S t f (ls.setIfInBounds i true) (a.put oi.dst v) w) : HeldT P md ops Q S t (f + 1) ls a w := by
  have hA := wpAny_take hi hs hf (by rw [hr]; simp) hQ hy (heldT_any f _ _ _ h)
  refine ⟨fun e => (by rw [hr] at e; cases e), fun j hj => ?_⟩
  by_cases e : j = t
  · rw [if_pos e]; exact hA.2 j hj
  · rw [if_neg e]
    rw [hr] at hj
    obtain rfl : j = i := by
      rcases List.mem_cons.1 hj with h' | h'
      · exact h'
      · exact absurd (by simpa using h') e
    exact hy.yieldsIf.wpOp hi hS ⟨hS, h⟩
/-- the last operations, from number t on: S is let go -/
theorem heldT_tail {l : List Oper} {ls : Array Bool} {a : Act} {w : World} {f : Nat} (hr : Region.ready md ops ls = [t]) (hf : f + 1 = l.length) (hl : ops.toList.drop t = l) (hB : Region.seqB md ops l.length t ls = true)
    (h : wpList P ops Q l a w) : HeldT P md ops Q S t (f + 1) ls a w := by
  have hA := wpAny_of_seq (md := md) (Q' := Q) l t ls a w (fun j => by rw [← hl]; simp) hB h
  rw [← hf] at hA
  refine ⟨fun e => (by rw [hr] at e; cases e), fun q hq => ?_⟩
  have hq2 := hA.2 q hq
  rw [hr] at hq
  obtain rfl : q = t := by simpa using hq
  rw [if_pos rfl]
  exact hq2
theorem wp_region_heldT {id : Nat} {a : Act} {w : World} (t : Nat) (hm : P.follows .mixedOrders = true) (hS : S w.drew) (h : S w.drew → HeldT P .any ops (NoPanic Q) S t ops.size (Array.replicate ops.size false) a w.drew) : (Code.region id ops true).wp P Q a w :=
  wp_region_noPanic (wp_region_any hm (heldT_any _ _ _ _ (h hS)))
end
end
section
open Go.RowKit
set_option linter.unusedVariables false
set_option linter.unusedSimpArgs false

section
variable {P : Program} {ops : Array Oper} {md : Region.Mode} {Q : Exit → Act → World → Prop} {S : World → Prop} {t : Nat}
/-- t waits for the chain's first, each for the next, the last for i; none of them is done -/
def chainB (md : Region.Mode) (ops : Array Oper) (ls : Array Bool) : Nat → List Nat → Nat → Bool
  | t, [], i => Region.waitsFor md ops t i
  | t, m :: c, i => Region.waitsFor md ops t m && (ls.getD m true == false) && chainB md ops ls m c i
theorem not_ready {m n : Nat} {ls : Array Bool} (hw : Region.waitsFor md ops m n = true) (hn : ls.getD n true = false) : m ∉ Region.ready md ops ls := fun h => by
  obtain ⟨ot, hot, d, hd, hdb, hdi⟩ := Region.waitsFor_spec hw
  obtain ⟨-, oj, hoj, hall⟩ := mem_ready.1 h
  rw [hot] at hoj
  cases hoj
  have h1 := hall d hd hdb
  rw [hdi, getD_both hn] at h1
  cases h1
theorem chain_not {ls : Array Bool} : ∀ {t : Nat} {c : List Nat} {i : Nat}, chainB md ops ls t c i = true → ls.getD i true = false → t ∉ Region.ready md ops ls
  | t, [], i, h, hi => not_ready h hi
  | t, m :: c, i, h, hi => by
    simp only [chainB, Bool.and_eq_true, beq_iff_eq] at h
    exact not_ready h.1.1 h.1.2
theorem chain_set {ls : Array Bool} {j : Nat} : ∀ {t : Nat} {c : List Nat} {i : Nat}, chainB md ops ls t c i = true → ls.getD i true = false → j ∈ Region.ready md ops ls → chainB md ops (ls.setIfInBounds j true) t c i = true
  | t, [], i, h, hi, hj => h
  | t, m :: c, i, h, hi, hj => by
    simp only [chainB, Bool.and_eq_true, beq_iff_eq] at h ⊢
    refine ⟨⟨h.1.1, ?_⟩, chain_set h.2 hi hj⟩
    have hne : j ≠ m := fun e => by subst e; exact chain_not h.2 hi hj
    rw [getD_set_ne true hne]
    exact h.1.2
theorem heldT_firstC {i : Nat} {oi : Oper} {v : Value} {c : List Nat} (hi : ops[i]? = some oi) (hsel : ∀ (j : Nat) (o : Oper) cs b, ops[j]? = some o → o.op ≠ .select cs b) (hQ : ∀ c a w, Q (.panic c) (a.put oi.dst v) w → Q (.panic c) a w)
    (hit : i ≠ t) (f : Nat) :
    ∀ ls a w, chainB md ops ls t c i = true → (∀ j oj, ops[j]? = some oj → j ≠ i → ls.getD j true = false → (∀ e ∈ oj.after, Region.binds md e = true → e.on ≠ i) → oi.apart ops oj = true) →
      i ∈ Region.ready md ops ls → YieldsIf P ops S oi v a → S w → HeldT P md ops Q S t f (ls.setIfInBounds i true) (a.put oi.dst v) w → HeldT P md ops Q S t (f + 1) ls a w := by
  have hnt : ∀ ls, chainB md ops ls t c i = true → i ∈ Region.ready md ops ls → ∀ j ∈ Region.ready md ops ls, j ≠ t := fun ls hc hr j hj e => by
    subst e
    exact chain_not hc (mem_ready.1 hr).1 hj
  induction f with
  | zero =>
    intro ls a w hc _ hr hy hS h
    refine ⟨fun e => by simp [e] at hr, fun j hj => ?_⟩
    rw [if_neg (hnt ls hc hr j hj)]
    by_cases e : j = i
    · subst e; exact hy.wpOp hi hS ⟨hS, h⟩
    · have h1 := ready_mono hj e
      rw [h.1] at h1
      cases h1
  | succ f ih =>
    intro ls a w hc hap hr hy hS h
    refine ⟨fun e => by simp [e] at hr, fun j hj => ?_⟩
    rw [if_neg (hnt ls hc hr j hj)]
    by_cases e : j = i
    · subst e; exact hy.wpOp hi hS ⟨hS, h⟩
    · obtain ⟨hj0, oj, hoj, hall⟩ := mem_ready.1 hj
      have hwj : ∀ d ∈ oj.after, Region.binds md d = true → d.on ≠ i := fun d hd hb h' => by
        have h1 := hall d hd hb
        rw [h', getD_both (mem_ready.1 hr).1] at h1
        cases h1
      have h1 := h.2 j (ready_mono hj e)
      rw [if_neg (hnt ls hc hr j hj)] at h1
      refine wpOp_mono (fun a' w' hh => ⟨hh.2.1, ih (ls.setIfInBounds j true) a' w' (chain_set hc (mem_ready.1 hr).1 hj) (fun q oq hq hqi hq0 hqw => ?_) (ready_mono hr (fun h' => e h'.symm)) hh.1 hh.2.1 ?_⟩)
        (wpOp_putIf hoj (hap j oj hoj e hj0 hwj) (fun cs b => hsel i oi cs b hi) (fun cs b => hsel j oj cs b hoj) hQ hy h1)
      · by_cases ejq : j = q
        · subst ejq; exact hap j oq hq hqi hj0 hqw
        · rw [getD_set_ne true ejq] at hq0
          exact hap q oq hq hqi hq0 hqw
      · rw [Array.setIfInBounds_comm _ _ e]
        exact hh.2.2
theorem heldT_takeC {i : Nat} {oi : Oper} {v : Value} {f : Nat} {ls : Array Bool} {a : Act} {w : World} (c : List Nat) (hi : ops[i]? = some oi) (hs : Region.noSelect ops = true) (hf : Region.free md ops ls i = true) (hr : (Region.ready md ops ls).contains i = true) (hw : (chainB md ops ls t c i && i != t) = true)
    (hQ : ∀ c a w, Q (.panic c) (a.put oi.dst v) w → Q (.panic c) a w) (hy : YieldsIf P ops S oi v a) (hS : S w) (h : HeldT P md ops Q S t f (ls.setIfInBounds i true) (a.put oi.dst v) w) : HeldT P md ops Q S t (f + 1) ls a w := by
  simp only [Bool.and_eq_true, bne_iff_ne] at hw
  exact heldT_firstC hi (Region.noSelect_spec hs) hQ hw.2 f ls a w hw.1 (Region.free_spec hi hf) (by simpa using hr) hy hS h
/-- an operation that no world touches is taken first, wherever number t stands -/
theorem heldT_freeA {i : Nat} {oi : Oper} {v : Value} (hi : ops[i]? = some oi) (hsel : ∀ (j : Nat) (o : Oper) cs b, ops[j]? = some o → o.op ≠ .select cs b) (hQ : ∀ c a w, Q (.panic c) (a.put oi.dst v) w → Q (.panic c) a w)
    (hit : i ≠ t) (f : Nat) :
    ∀ ls a w, (∀ j oj, ops[j]? = some oj → j ≠ i → ls.getD j true = false → (∀ e ∈ oj.after, Region.binds md e = true → e.on ≠ i) → oi.apart ops oj = true) →
      i ∈ Region.ready md ops ls → Yields P ops oi v a → S w → HeldT P md ops Q S t f (ls.setIfInBounds i true) (a.put oi.dst v) w → HeldT P md ops Q S t (f + 1) ls a w := by
  induction f with
  | zero =>
    intro ls a w _ hr hy hS h
    refine ⟨fun e => by simp [e] at hr, fun j hj => ?_⟩
    by_cases e : j = i
    · subst e; rw [if_neg hit]; exact hy.yieldsIf.wpOp hi hS ⟨hS, h⟩
    · have h1 := ready_mono hj e
      rw [h.1] at h1
      cases h1
  | succ f ih =>
    intro ls a w hap hr hy hS h
    refine ⟨fun e => by simp [e] at hr, fun j hj => ?_⟩
    by_cases e : j = i
    · subst e; rw [if_neg hit]; exact hy.yieldsIf.wpOp hi hS ⟨hS, h⟩
    · by_cases et : j = t
      · rw [if_pos et]
        exact (wpAny_first hi hsel hQ (f + 1) ls a w hap hr hy (heldT_any (f + 1) _ _ _ h)).2 j hj
      · obtain ⟨hj0, oj, hoj, hall⟩ := mem_ready.1 hj
        have hwj : ∀ d ∈ oj.after, Region.binds md d = true → d.on ≠ i := fun d hd hb h' => by
          have h1 := hall d hd hb
          rw [h', getD_both (mem_ready.1 hr).1] at h1
          cases h1
        have h1 := h.2 j (ready_mono hj e)
        rw [if_neg et] at h1 ⊢
        refine wpOp_mono (fun a' w' hh => ⟨hh.2.1, ih (ls.setIfInBounds j true) a' w' (fun q oq hq hqi hq0 hqw => ?_) (ready_mono hr (fun h' => e h'.symm)) hh.1 hh.2.1 ?_⟩)
          (wpOp_put hoj (hap j oj hoj e hj0 hwj) (fun cs b => hsel i oi cs b hi) (fun cs b => hsel j oj cs b hoj) hQ hy h1)
        · by_cases ejq : j = q
          · subst ejq; exact hap j oq hq hqi hj0 hqw
          · rw [getD_set_ne true ejq] at hq0
            exact hap q oq hq hqi hq0 hqw
        · rw [Array.setIfInBounds_comm _ _ e]
          exact hh.2.2
theorem heldT_free {i : Nat} {oi : Oper} {v : Value} {f : Nat} {ls : Array Bool} {a : Act} {w : World} (hi : ops[i]? = some oi) (hs : Region.noSelect ops = true) (hf : Region.free md ops ls i = true) (hr : (Region.ready md ops ls).contains i = true) (hit : (i != t) = true)
    (hQ : ∀ c a w, Q (.panic c) (a.put oi.dst v) w → Q (.panic c) a w) (hy : Yields P ops oi v a) (hS : S w) (h : HeldT P md ops Q S t f (ls.setIfInBounds i true) (a.put oi.dst v) w) : HeldT P md ops Q S t (f + 1) ls a w :=
  heldT_freeA hi (Region.noSelect_spec hs) hQ (by simpa using hit) f ls a w (Region.free_spec hi hf) (by simpa using hr) hy hS h
end
end
section
open Go.RowKit
set_option linter.unusedVariables false
set_option linter.unusedSimpArgs false

theorem u8s_one (l : List Int) : ∀ u ∈ u8s l, u.oneCell' = true := by
  intro u hu
  obtain ⟨x, -, rfl⟩ := List.mem_map.1 hu
  rfl
theorem put1_mem {l : List Msg} {t x : Msg} {p : Nat} : x ∈ put1 l p t ↔ x = t ∨ x ∈ l := by
  unfold put1
  rw [List.mem_append, List.mem_cons]
  constructor
  · rintro (h | h | h)
    · exact .inr (List.mem_of_mem_take h)
    · exact .inl h
    · exact .inr (List.mem_of_mem_drop h)
  · rintro (h | h)
    · exact .inr (.inl h)
    · rw [← List.take_append_drop p l, List.mem_append] at h
      rcases h with h | h
      · exact .inl h
      · exact .inr (.inr h)
section
variable {R G : Nat → Prop} {w w1 w2 w4 : World} {b n c2 c4 k : Nat} {A A2 A4 : Option Addr} {l : List Msg} {room due : Int} {bs : List Int} {p : Nat}
theorem put_keep (h : PAt R w1 G b (.slice A l.length k) l room) (hb1 : Below w.heap.size w w1) (hb2 : Below w1.heap.size w1 w2)
    (hk4 : Keep (fun q => (Value.slice A l.length k).ownBlock = some q) (w2.alloc (.cells (msgCells ⟨due, A2, n, c2, bs⟩).toArray 102)) w4) :
    Keep G w (w4.setCell ⟨b, 1, none⟩ (.slice A4 (l.length + 1) c4)) := by
  have h1 : Keep G w (w2.alloc (.cells (msgCells ⟨due, A2, n, c2, bs⟩).toArray 102)) := (Keep.ofBelowAll (bmore hb1 hb2 hb1.size)).alloc _
  exact (h1.trans hk4 (fun q _ hq => h.gv q hq)).setCell (p := ⟨b, 1, none⟩) (.inl h.gb) _
theorem put_pat (h : PAt R w1 G b (.slice A l.length k) l room) (hb1 : Below w.heap.size w w1)
    (ho2 : w2.ownsRow w1.heap.size 5 1 (.slice A2 n c2) n (u8s bs)) (hb2 : Below w1.heap.size w1 w2) (hb : bs.length = n) (hn : n ≤ 320)
    (ho4 : w4.ownsRow 0 102 2 (.slice A4 (l.length + 1) c4) (l.length + 1) ((put1 l p ⟨due, A2, n, c2, bs⟩).flatMap msgCells))
    (hk4 : Keep (fun q => (Value.slice A l.length k).ownBlock = some q) (w2.alloc (.cells (msgCells ⟨due, A2, n, c2, bs⟩).toArray 102)) w4)
    (hn4 : ∀ g, (Value.slice A4 (l.length + 1) c4).ownBlock = some g → (Value.slice A l.length k).ownBlock = some g ∨ (w2.alloc (.cells (msgCells ⟨due, A2, n, c2, bs⟩).toArray 102)).heap.size ≤ g) :
    PAt R (w4.setCell ⟨b, 1, none⟩ (.slice A4 (l.length + 1) c4)) (fun q => G q ∨ w.heap.size ≤ q) b (.slice A4 (l.length + 1) c4) (put1 l p ⟨due, A2, n, c2, bs⟩) room := by
  obtain ⟨w3, hw3⟩ : ∃ w3, w3 = w2.alloc (.cells (msgCells ⟨due, A2, n, c2, bs⟩).toArray 102) := ⟨_, rfl⟩
  have hb3 : Below w2.heap.size w2 w3 := by rw [hw3]; exact (Below.refl _ w2).alloc (Nat.le_refl _) _
  have hz3 : w3.heap.size = w2.heap.size + 1 := by rw [hw3]; simp
  rw [← hw3] at hk4 hn4
  have h2 := h.below hb2
  have h3 := h2.below hb3
  have hlen : (put1 l p ⟨due, A2, n, c2, bs⟩).length = l.length + 1 := by
    have h5 := ho4.1
    rw [flatMap_length msgCells_len] at h5
    omega
  have hs4 := h3.str.keep hk4 (fun e => (h3.ne e).1 rfl)
  have hk5 : Keep (fun q => q = b) w4 (w4.setCell ⟨b, 1, none⟩ (.slice A4 (l.length + 1) c4)) := (Keep.refl (fun q => q = b) w4).setCell (p := ⟨b, 1, none⟩) (.inl rfl) _
  have hbl : b < w1.heap.size := h.str.lt
  have hnb : ∀ g, (Value.slice A4 (l.length + 1) c4).ownBlock = some g → g ≠ b := fun g hg e => by
    rcases hn4 g hg with x | x
    · exact (h3.ne x).1 e
    · have := hb2.size; omega
  refine ⟨hs4.set' rfl, ?_, fun m hm => ?_, .inl h.gb, fun g hg => ?_⟩
  · rw [hlen]
    exact ownsRow_keep ho4 hk5 (fun g hg e => hnb g hg e)
  · rcases put1_mem.1 hm with rfl | hm
    · have h5 : MsgOk w2 (fun q => w1.heap.size ≤ q ∧ q < w2.heap.size) ⟨due, A2, n, c2, bs⟩ := ⟨ownsRow_base ho2 (Nat.zero_le _), hb, hn, fun g hg => ho2.lt g hg⟩
      have h6 := ((h5.keep (Keep.none hb3) (fun _ _ => id)).keep hk4 (fun q hq e => by have := (h.ne e).2; omega)).keep hk5 (fun q hq e => by omega)
      refine h6.mono (fun q hq _ => ⟨.inl (.inr (by have := hb1.size; omega)), by omega, fun e => ?_⟩)
      rcases hn4 q e with x | x
      · have := (h.ne x).2; omega
      · omega
    · have h5 := h.by' m hm
      have h6 : MsgOk w1 (fun q => ((G q ∨ R q) ∧ q ≠ b ∧ (Value.slice A l.length k).ownBlock ≠ some q) ∧ q < w1.heap.size) m := h5.mono (fun q hq hl => ⟨hq, hl⟩)
      have h7 := (((h6.keep (Keep.none hb2) (fun _ _ => id)).keep (Keep.none hb3) (fun _ _ => id)).keep hk4 (fun q hq e => hq.1.2.2 e)).keep hk5 (fun q hq e => hq.1.2.1 e)
      refine h7.mono (fun q hq _ => ⟨hq.1.1.imp .inl id, hq.1.2.1, fun e => ?_⟩)
      rcases hn4 q e with x | x
      · exact hq.1.2.2 x
      · have := hb2.size; omega
  · rcases hn4 g hg with x | x
    · exact .inl (h.gv g x)
    · exact .inr (by have := hb1.size; have := hb2.size; omega)
end
set_option maxRecDepth 100000 in
theorem put_range {G : Nat → Prop} (b : Nat) (v : Value) (l : List Msg) (room due : Int) (A : Option Addr) (n c : Nat) (w : World) (h : due < 0 ∨ 2199023255552 < due ∨ 320 < n) :
    Calls Try.prog 56 #[.pointer (some ⟨b, 0, none⟩), .int .i64 due, .slice A n c] w fun e w' => e = .returned (.int .i64 11) ∧ w = w' := by
  rcases (by omega : due < 0 ∨ (¬ due < 0 ∧ 2199023255552 < due) ∨ (¬ due < 0 ∧ ¬ 2199023255552 < due ∧ 320 < n)) with g | ⟨g, g'⟩ | ⟨g, g', g''⟩
  all_goals
    clear h
    go_enter Try.func56, Try.ntmps56
    go_wp2
    go_ret
    exact ⟨rfl, rfl⟩
set_option maxRecDepth 100000 in
theorem put_full {R : Nat → Prop} {G : Nat → Prop} (b : Nat) (v : Value) (l : List Msg) (room due : Int) (A : Option Addr) (n c : Nat) (w : World) (h : PAt R w G b v l room) (hn : l.length ≤ 1000000) (hr : 0 ≤ room ∧ room ≤ 1000) (h1 : 0 ≤ due) (h2 : due ≤ 2199023255552) (h3 : n ≤ 320) (hf : room ≤ l.length) :
    Calls Try.prog 56 #[.pointer (some ⟨b, 0, none⟩), .int .i64 due, .slice A n c] w fun e w' => e = .returned (.int .i64 15) ∧ Below w.heap.size w w' := by
  have HR := Lib.hid (room_any b v l room w h hn hr)
  have g1 : room - (l.length : Int) < 1 := by omega
  clear h
  go_enter Try.func56, Try.ntmps56
  go_wp2_with fail
  refine HR.out.mono ?_
  rintro e w1 ⟨rfl, hb1⟩
  go_wp2
  go_ret
  exact ⟨rfl, hb1⟩
set_option maxRecDepth 100000 in
set_option maxHeartbeats 2000000 in
theorem put_ok {R : Nat → Prop} {G : Nat → Prop} (b : Nat) (v : Value) (l : List Msg) (room due : Int) (A0 : Option Addr) (n c : Nat) (bs : List Int) (w : World) (h : PAt R w G b v l room) (hn : l.length ≤ 1000000) (hr : 0 ≤ room ∧ room ≤ 1000) (h1 : 0 ≤ due) (h2 : due ≤ 2199023255552) (h3 : n ≤ 320) (hf : (l.length : Int) < room)
    (hx : Reads w 1 (.slice A0 n c) n (u8s bs)) (hb : bs.length = n) :
    Calls Try.prog 56 #[.pointer (some ⟨b, 0, none⟩), .int .i64 due, .slice A0 n c] w fun e w' => e = .returned (.int .i64 0) ∧ ∃ v' m, PAt R w' (fun q => G q ∨ w.heap.size ≤ q) b v' (put1 l (dueN l due) m) room ∧ m.due = due ∧ m.bs = bs ∧ m.n = n ∧ Keep G w w' := by
  have hrm := room_any b v l room w h hn hr
  obtain ⟨A, k, rfl⟩ := h.slice
  obtain ⟨wr, hwr⟩ : ∃ wr, wr = w := ⟨_, rfl⟩
  have HRM := Lib.hid hrm
  have H0 := Lib.hid h
  have HX0 := Lib.hid hx
  have g1 : ¬ room - (l.length : Int) < 1 := by omega
  have g3 : ¬ due < 0 := by omega
  have g4 : ¬ 2199023255552 < due := by omega
  clear h hx hrm hwr
  go_enter Try.func56, Try.ntmps56
  go_wp2_with fail
  refine HRM.out.mono ?_
  rintro e w0 ⟨rfl, hb0⟩
  have HB0 := Lib.hid hb0
  have H := Lib.hid (H0.out.below hb0)
  have HX := Lib.hid (HX0.out.below hb0)
  clear hb0 HRM
  have HW : Hid (PAt R w0.drew G b (.slice A l.length k) l room) := H.out.below (below_drewN (Below.refl _ w0) 1)
  have HXW : Hid (Reads w0.drew 1 (.slice A0 n c) n (u8s bs)) := HX.out.below (below_drewN (Below.refl _ w0) 1)
  have HBW : Hid (Below w.heap.size w w0.drew) := bmore HB0.out (below_drewN (Below.refl _ w0) 1) HB0.out.size
  have HD := Lib.hid (due_any b (.slice A l.length k) l room due w0.drew HW.out hn)
  go_wp2_with fail
  refine wp_region_heldT (S := fun w' => Blk w' b #[.int .i64 room, .slice A l.length k] 98) 16 (by kernel_rfl) HW.out.str (fun hHeld => ?_)
  refine heldT_free (i := 0) (v := ?_) rfl (by kernel_rfl) (by kernel_rfl) (by kernel_rfl) (by kernel_rfl) (fun _ _ _ h => h) (Or.inl ⟨by rfl, ?_⟩) hHeld ?_
  rotate_left 1
  · intro wS; go_simp <;> with_reducible rfl
  (try simp only [Act.put, List.setIfInBounds_toArray, List.set_cons_zero, List.set_cons_succ])
  refine heldT_free (i := 1) (v := ?_) rfl (by kernel_rfl) (by kernel_rfl) (by kernel_rfl) (by kernel_rfl) (fun _ _ _ h => h) (Or.inl ⟨by rfl, ?_⟩) hHeld ?_
  rotate_left 1
  · intro wS; go_simp <;> with_reducible rfl
  (try simp only [Act.put, List.setIfInBounds_toArray, List.set_cons_zero, List.set_cons_succ])
  refine heldT_free (i := 2) (v := ?_) rfl (by kernel_rfl) (by kernel_rfl) (by kernel_rfl) (by kernel_rfl) (fun _ _ _ h => h) (Or.inl ⟨by rfl, ?_⟩) hHeld ?_
  rotate_left 1
  · intro wS; go_simp <;> with_reducible rfl
  (try simp only [Act.put, List.setIfInBounds_toArray, List.set_cons_zero, List.set_cons_succ])
  refine heldT_free (i := 3) (v := ?_) rfl (by kernel_rfl) (by kernel_rfl) (by kernel_rfl) (by kernel_rfl) (fun _ _ _ h => h) (Or.inl ⟨by rfl, ?_⟩) hHeld ?_
  rotate_left 1
  · intro wS; go_simp <;> with_reducible rfl
  (try simp only [Act.put, List.setIfInBounds_toArray, List.set_cons_zero, List.set_cons_succ])
  refine heldT_takeC [] (i := 4) (v := ?_) rfl (by kernel_rfl) (by kernel_rfl) (by kernel_rfl) (by kernel_rfl) (fun _ _ _ h => h) (Or.inl ⟨by rfl, ?_⟩) hHeld ?_
  rotate_left 1
  · intro wS hSw; obtain ⟨e0, e1⟩ := blk2 hSw; clear hSw; go_simp <;> with_reducible rfl
  (try simp only [Act.put, List.setIfInBounds_toArray, List.set_cons_zero, List.set_cons_succ])
  refine heldT_free (i := 5) (v := ?_) rfl (by kernel_rfl) (by kernel_rfl) (by kernel_rfl) (by kernel_rfl) (fun _ _ _ h => h) (Or.inl ⟨by rfl, ?_⟩) hHeld ?_
  rotate_left 1
  · intro wS; go_simp <;> with_reducible rfl
  (try simp only [Act.put, List.setIfInBounds_toArray, List.set_cons_zero, List.set_cons_succ])
  refine heldT_free (i := 6) (v := ?_) rfl (by kernel_rfl) (by kernel_rfl) (by kernel_rfl) (by kernel_rfl) (fun _ _ _ h => h) (Or.inl ⟨by rfl, ?_⟩) hHeld ?_
  rotate_left 1
  · intro wS; go_simp <;> with_reducible rfl
  (try simp only [Act.put, List.setIfInBounds_toArray, List.set_cons_zero, List.set_cons_succ])
  refine heldT_free (i := 8) (v := ?_) rfl (by kernel_rfl) (by kernel_rfl) (by kernel_rfl) (by kernel_rfl) (fun _ _ _ h => h) (Or.inl ⟨by rfl, ?_⟩) hHeld ?_
  rotate_left 1
  · intro wS; go_simp <;> with_reducible rfl
  (try simp only [Act.put, List.setIfInBounds_toArray, List.set_cons_zero, List.set_cons_succ])
  refine heldT_free (i := 9) (v := ?_) rfl (by kernel_rfl) (by kernel_rfl) (by kernel_rfl) (by kernel_rfl) (fun _ _ _ h => h) (Or.inl ⟨by rfl, ?_⟩) hHeld ?_
  rotate_left 1
  · intro wS; go_simp <;> with_reducible rfl
  (try simp only [Act.put, List.setIfInBounds_toArray, List.set_cons_zero, List.set_cons_succ])
  refine heldT_one (j := 7) (by kernel_rfl) (by kernel_rfl) rfl (fun K hK => ?_)
  go_simp
  go_at_call 63
  refine HD.out.mono ?_
  rintro e w1 ⟨rfl, hb1⟩
  have HP1 := Lib.hid (HW.out.below hb1)
  have HX1 := Lib.hid (HXW.out.below hb1)
  have HB1 := Lib.hid (bmore HBW.out hb1 HBW.out.size)
  clear hb1
  go_wp2_with fail
  refine hK.out _ _ HP1.out.str (fun hHeld => ?_)
  clear hK K
  (try simp only [Act.put, List.setIfInBounds_toArray, List.set_cons_zero, List.set_cons_succ])
  refine heldT_one (j := 10) (by kernel_rfl) (by kernel_rfl) rfl (fun K hK => ?_)
  go_simp
  go_at_call 47
  refine (clone_byte (.slice A0 n c) n (u8s bs) w1 HX1.out (by omega) (u8s_one bs)).mono ?_
  rintro e w2 ⟨A2, c2, rfl, ho2, hb2, -⟩
  have HO2 := Lib.hid ho2
  have HB2 := Lib.hid hb2
  have HP2 := Lib.hid (HP1.out.below hb2)
  clear ho2 hb2
  go_wp2_with fail
  refine hK.out _ _ HP2.out.str (fun hHeld => ?_)
  clear hK K
  (try simp only [Act.put, List.setIfInBounds_toArray, List.set_cons_zero, List.set_cons_succ])
  refine heldT_free (i := 11) (v := ?_) rfl (by kernel_rfl) (by kernel_rfl) (by kernel_rfl) (by kernel_rfl) (fun _ _ _ h => h) (Or.inl ⟨by rfl, ?_⟩) hHeld ?_
  rotate_left 1
  · intro wS; go_simp <;> with_reducible rfl
  (try simp only [Act.put, List.setIfInBounds_toArray, List.set_cons_zero, List.set_cons_succ])
  refine heldT_one (j := 12) (by kernel_rfl) (by kernel_rfl) rfl (fun K hK => ?_)
  go_simp
  go_wp2_with fail
  refine hK.out _ _ (HP2.out.str.alloc _) (fun hHeld => ?_)
  clear hK K
  (try simp only [Act.put, List.setIfInBounds_toArray, List.set_cons_zero, List.set_cons_succ])
  refine heldT_one (j := 13) (by kernel_rfl) (by kernel_rfl) rfl (fun K hK => ?_)
  go_simp
  go_at_call 62
  refine (insert_msg 0 w2.heap.size (dueN l due) (.slice A l.length k) l ⟨due, A2, n, c2, bs⟩ _ msg_one (dueN_le l due) (by omega) (Nat.zero_le _) (HP2.out.row.alloc _) (Blk.new w2 _ _) (fun e => by have := (HP2.out.ne e).2; omega)).mono ?_
  rintro e w4 ⟨A4, c4, rfl, ho4, hk4, hn4⟩
  have HO4 := Lib.hid ho4
  have HK4 := Lib.hid hk4
  have HN4 := Lib.hid hn4
  have HS4 := Lib.hid ((HP2.out.str.alloc (.cells (msgCells ⟨due, A2, n, c2, bs⟩).toArray 102)).keep hk4 (fun e => (HP2.out.ne e).1 rfl))
  clear ho4 hk4 hn4
  go_wp2_with fail
  refine hK.out _ _ HS4.out (fun hHeld => ?_)
  clear hK K
  (try simp only [Act.put, List.setIfInBounds_toArray, List.set_cons_zero, List.set_cons_succ])
  refine heldT_free (i := 14) (v := ?_) rfl (by kernel_rfl) (by kernel_rfl) (by kernel_rfl) (by kernel_rfl) (fun _ _ _ h => h) (Or.inl ⟨by rfl, ?_⟩) hHeld ?_
  rotate_left 1
  · intro wS; go_simp <;> with_reducible rfl
  (try simp only [Act.put, List.setIfInBounds_toArray, List.set_cons_zero, List.set_cons_succ])
  refine heldT_free (i := 15) (v := ?_) rfl (by kernel_rfl) (by kernel_rfl) (by kernel_rfl) (by kernel_rfl) (fun _ _ _ h => h) (Or.inl ⟨by rfl, ?_⟩) hHeld ?_
  rotate_left 1
  · intro wS; go_simp <;> with_reducible rfl
  (try simp only [Act.put, List.setIfInBounds_toArray, List.set_cons_zero, List.set_cons_succ])
  refine heldT_tail (by kernel_rfl) rfl rfl (by kernel_rfl) ?_
  (try simp only [List.drop_succ_cons, List.drop_zero])
  have f1 := HS4.out.frozen 1
  obtain ⟨s0, s1⟩ := blk2 HS4.out
  go_wp2_with fail
  refine NoPanic.normal ?_
  go_wp2
  go_ret
  exact ⟨rfl, _, ⟨due, A2, n, c2, bs⟩, put_pat HP1.out HB1.out HO2.out HB2.out hb h3 HO4.out HK4.out HN4.out, rfl, rfl, rfl, put_keep HP1.out HB1.out HB2.out HK4.out⟩
theorem held3c {wr w3 : World} {p0 p1 p2 : Addr} {v0 v1 v2 : Value} (hb : Below wr.drew.heap.size wr.drew w3) (d0 : wr.cell? p0 = some v0) (d1 : wr.cell? p1 = some v1) (d2 : wr.cell? p2 = some v2) :
    w3.cell? p0 = some v0 ∧ w3.cell? p1 = some v1 ∧ w3.cell? p2 = some v2 := by
  have key : ∀ {p : Addr} {v : Value}, wr.cell? p = some v → w3.cell? p = some v := fun {p v} d => ((Keep.none hb).cell (p := p) (World.block_lt_of_cell? _ _ d) id).trans d
  exact ⟨key d0, key d1, key d2⟩
end
section
open Go.RowKit Go.Shelf
set_option linter.unusedVariables false
set_option linter.unusedSimpArgs false

/-- cells outside S lie as they lay -/
def KeepC (S : Nat → Prop) (W W' : World) : Prop := W.heap.size ≤ W'.heap.size ∧ ∀ k cs T, ¬ S k → W.heap[k]? = some (.cells cs T) → W'.heap[k]? = some (.cells cs T)
theorem KeepC.trans {S : Nat → Prop} {A B C : World} (h : KeepC S A B) (k : KeepC S B C) : KeepC S A C := ⟨Nat.le_trans h.1 k.1, fun i cs T hi h1 => k.2 i cs T hi (h.2 i cs T hi h1)⟩
theorem KeepC.refl (S : Nat → Prop) (W : World) : KeepC S W W := ⟨Nat.le_refl _, fun _ _ _ _ h => h⟩
theorem KeepC.blk {S : Nat → Prop} {W W' : World} (h : KeepC S W W') {b : Nat} {cs : Array Value} {T : TypeId} (hb : Blk W b cs T) (hs : ¬ S b) : Blk W' b cs T := h.2 b cs T hs hb
theorem keepC_b {S : Nat → Prop} {w : World} (W : World) (l : Nat) (o o' : Obj) (_ : w.heap.size ≤ l) (h : W.heap[l]? = some o) (hc : o.isCells = false) (_ : o.isWalk = false) : KeepC S W (W.putObj l o') := by
  refine ⟨by simp, fun k cs T _ hk => ?_⟩
  by_cases e : k = l
  · subst e
    rw [hk] at h
    cases h
    cases hc
  · exact (World.putObj_heap_other e).trans hk
theorem KeepC.below {S : Nat → Prop} {A W W' : World} (h : KeepC S A W) (hb : Below W.heap.size W W') : KeepC S A W' := h.trans ⟨hb.size, fun k cs T _ hk => (hb.block k (Array.getElem?_eq_some_iff.1 hk).1).trans hk⟩
theorem KeepC.alloc {S : Nat → Prop} {A W : World} (h : KeepC S A W) (o : Obj) : KeepC S A (W.alloc o) := h.below ((Below.refl _ W).alloc (Nat.le_refl _) o)
theorem KeepC.setCell {S : Nat → Prop} {A W : World} (h : KeepC S A W) {p : Addr} (hp : S p.block) (u : Value) : KeepC S A (W.setCell p u) :=
  ⟨by simpa using h.1, fun k cs T hk hA => (Below.heap_setCell _ _ _ _ (fun e => hk (by rw [e]; exact hp))).trans (h.2 k cs T hk hA)⟩
theorem keepsOthers_below {A W W' : World} (h : KeepsOthers A W) (hb : Below W.heap.size W W') : KeepsOthers A W' := h.trans ⟨hb.size, fun k o hk _ => (hb.block k (Array.getElem?_eq_some_iff.1 hk).1).trans hk⟩
theorem grown_below {W W' : World} (hb : Below W.heap.size W W') : W.grownBy W' none := ⟨hb.os, hb.tape, hb.output, hb.size, fun k hk _ => hb.block k hk⟩
theorem ownFrom_blk {β : Type} (B : Nat) (b : β → Nat) (cs : β → Array Value) (T : TypeId) : OwnFrom B (fun s W => Blk W (b s) (cs s) T) := fun s W W' row hs hg hr => by
  have h : W'.heap[b s]? = W.heap[b s]? := hg.block (b s) hs.lt (fun e => by
    obtain ⟨_, o, ho, hc⟩ := hr (b s) e.symm
    have h2 : W.heap[b s]? = some (.cells (cs s) T) := hs
    rw [h2] at ho; cases ho; cases hc)
  exact h.trans hs
end
section
open Go.RowKit
set_option linter.unusedVariables false
set_option linter.unusedSimpArgs false

theorem keepC_turned {T : Nat → Prop} {A0 A : World} (h : Keep T A0 A) {q : Nat} {o o' : Obj} (ho : A.heap[q]? = some o) (hc : o.isCells = false) : KeepC T A0 (A.putObj q o') := by
  refine ⟨by have := h.size; simpa using this, fun k cs T' hk hk0 => ?_⟩
  have h1 := (h.block k (Array.getElem?_eq_some_iff.1 hk0).1 hk).trans hk0
  by_cases e : k = q
  · subst e
    rw [h1] at ho
    cases ho
    cases hc
  · exact (World.putObj_heap_other e).trans h1
/-- what such an iterator does to whatever its caller says (J), which abides the iterator's own blocks T; S, Sp say how it ends, in the world too -/
def SeqOwnY {α : Type} (F : Fence) (n : Nat) (P : Program) (g : Nat) (lb : Array Value) (encs : α → Array Value) (Kp : World → World → Prop) (T : Nat → Prop) (Y : List α → α → Nat → World → Prop) (S Sp : List α → World → Prop) (w : World) : Prop :=
  ∀ (l : Nat) (J Jx : List α → World → Prop) (W : World), Below w.heap.size w W → (∀ s A B, J s A → Keep T A B → J s B) →
    (∀ pre x A0 A, J pre A0 → Keep T A0 A → J pre A → Y pre x A0.heap.size A → YieldAt F (n - 1) P l (encs x) A fun e B => (e = .returned (.bool true) ∧ J (pre ++ [x]) B ∧ Kp A B) ∨ (e = .returned (.bool false) ∧ Jx (pre ++ [x]) B ∧ Kp A B)) →
    J [] W → CallsIn F n P g (#[.func (.yield l) #[] #[]] ++ lb) W fun e W' => (∃ v, e = .returned v) ∧ ((∃ xs, S xs W' ∧ J xs W') ∨ ∃ pre, Sp pre W' ∧ Jx pre W')
/-- how a round's body may be left -/
def roundOwnY {α : Type} (Kp : World → World → Prop) (I : List α → World → Prop) (Ix : Code → List α → World → Prop) (xs : List α) (W : World) : Exit → Act → World → Prop
  | .normal, _, B => KeepsOthers W B ∧ Kp W B ∧ I xs B
  | .ret, _, B => KeepsOthers W B ∧ Kp W B ∧ Ix .ret xs B
  | .exit id, _, B => KeepsOthers W B ∧ Kp W B ∧ Ix (.exit id) xs B
  | _, _, _ => False
/-- what a turn of a block that holds no cells leaves as it is -/
def TurnsY {β : Type} (B : Nat) (I : β → World → Prop) : Prop := ∀ s W l o o', I s W → B ≤ l → W.heap[l]? = some o → o.isCells = false → I s (W.putObj l o')
theorem wpIn_rangeOwnY {α : Type} {F : Fence} {n : Nat} {P : Program} {g : Operand} {ps : Array Tmp} {assign body : Code} {Q : Exit → Act → World → Prop} {a : Act} {w : World} (hro : F.round = none) (h1 : 1 ≤ n)
    {gf : Nat} {lb : Array Value} (hg : a.eval g = .func (.func gf) #[] lb) (hFg : F.fn gf) (eg : ∀ args w, (callFunc gf args).run P w = .ok (.enter gf args) w)
    {encs : α → Array Value} {Kp : World → World → Prop} {T : Nat → Prop} {Y : List α → α → Nat → World → Prop} {S Sp : List α → World → Prop} (hseq : SeqOwnY F (n - 1) P gf lb encs Kp T Y S Sp w)
    (hYt : ∀ pre x N W l o o', Y pre x N W → w.heap.size ≤ l → W.heap[l]? = some o → o.isCells = false → Y pre x N (W.putObj l o'))
    (hKt : ∀ {A B C : World}, Kp A B → Kp B C → Kp A C) (hKb : ∀ (W : World) (l : Nat) (o o' : Obj), w.heap.size ≤ l → W.heap[l]? = some o → o.isCells = false → Kp W (W.putObj l o')) (hT : ∀ k, T k → k < w.heap.size) (hps : ∀ x, (encs x).size = ps.size)
    (hS : TurnsY w.heap.size S) (hSp : TurnsY w.heap.size Sp)
    (I : List α → World → Prop) (Ix : Code → List α → World → Prop) (hI : TurnsY w.heap.size I) (hIx : ∀ c, TurnsY w.heap.size (Ix c)) (hIT : ∀ s A B, I s A → Keep T A B → I s B) (h0 : I [] w) (a₁ : α → Act)
    (hassign : ∀ (l : Nat) (x : α) (W : World) (K : Act → World → Prop), K (a₁ x) W → assign.wpIn (F.inRound l) (n - 1 - 1) P (Exit.then K (fun _ _ _ => False)) { tmps := (ps.zip (encs x)).foldl (fun t (p, v) => t.setIfInBounds p v) a.tmps, defers := [] } W)
    (hbody : ∀ (l : Nat) (pre : List α) (x : α) (W0 W : World), I pre W0 → KeepC T W0 W → I pre W → Y pre x W0.heap.size W → body.wpIn (F.inRound l) (n - 1 - 1) P (roundOwnY Kp I Ix (pre ++ [x]) W) (a₁ x) W)
    (hdone : ∀ (D : Nat) (xs : List α) (W : World), w.heap.size ≤ D → S xs W → I xs W → W.heap[D]? = some (.deferred (some [])) → Q .normal { a with defers := { target := .collected D, args := #[] } :: a.defers } W)
    (hstop : ∀ (D : Nat) (c : Code) (pre : List α) (W : World), w.heap.size ≤ D → Sp pre W → Ix c pre W → W.heap[D]? = some (.deferred (some [])) → c.wpIn F n P Q { a with defers := { target := .collected D, args := #[] } :: a.defers } W) :
    (Code.rangeFunc g ps assign body).wpIn F n P Q a w := by
  refine wpIn_rangeFunc fun fn hfn => ?_
  rw [hro]
  -- the loop's record: ready, busy or done; the jump that waits
  let R : LoopState → Option Code → Loop := fun st pe => { state := st, pending := pe, fn, tmps := a.tmps, params := ps, assign, body, defers := w.heap.size }
  obtain ⟨V, hV⟩ : ∃ V, V = (w.alloc (.deferred (some []))).alloc (.loop (R .ready none)) := ⟨_, rfl⟩
  have hbV : Below w.heap.size w V := by rw [hV]; exact ((Below.refl _ w).alloc (Nat.le_refl _) _).alloc (by simp) _
  have hVl : V.heap[w.heap.size + 1]? = some (.loop (R .ready none)) := by
    rw [hV]
    have h := World.alloc_heap_new (w.alloc (.deferred (some []))) (.loop (R .ready none))
    rwa [World.size_alloc] at h
  have hVd : V.heap[w.heap.size]? = some (.deferred (some [])) := by rw [hV]; exact (Below.heap_alloc _ _ _ (by simp)).trans (World.alloc_heap_new w _)
  have hVI : I [] V := by rw [hV]; exact hIT _ _ _ h0 (((Keep.refl T w).alloc _).alloc _)
  -- the two blocks of book-keeping
  let Bk : LoopState → Option Code → World → Prop := fun st pe W => W.heap[w.heap.size + 1]? = some (.loop (R st pe)) ∧ W.heap[w.heap.size]? = some (.deferred (some []))
  have hBT : ∀ st pe A B, Bk st pe A → Keep T A B → Bk st pe B := fun st pe A B h k =>
    ⟨(k.block _ (Array.getElem?_eq_some_iff.1 h.1).1 (fun e => by have := hT _ e; omega)).trans h.1, (k.block _ (Array.getElem?_eq_some_iff.1 h.2).1 (fun e => by have := hT _ e; omega)).trans h.2⟩
  have hBput : ∀ st pe st' pe' W, Bk st pe W → Bk st' pe' (W.putObj (w.heap.size + 1) (.loop (R st' pe'))) := fun st pe st' pe' W h =>
    ⟨World.putObj_heap_same (Array.getElem?_eq_some_iff.1 h.1).1, (World.putObj_heap_other (by omega)).trans h.2⟩
  have hBK : ∀ st pe A B, Bk st pe A → KeepsOthers A B → Bk st pe B := fun st pe A B h k => ⟨k.same _ _ h.1 rfl, k.same _ _ h.2 rfl⟩
  refine ⟨w.heap.size + 1, [{ target := .collected w.heap.size, args := #[] }], V, { target := .fn (.func gf) lb, args := #[.func (.yield (w.heap.size + 1)) #[] #[]] }, V, gf, #[.func (.yield (w.heap.size + 1)) #[] #[]] ++ lb, V, ?_, ?_, ?_, ?_, fun _ => h1, ?_⟩
  · rw [hV]; exact run_enterLoop_outer _ _ _ _ _
  · simp only [resolve, hg]
    simp [go_sem]
  · intro f' hf'
    simp [Target.leads] at hf'
    subst hf'
    exact hFg
  · simp [invoke, go_sem, eg]
  · refine (hseq (w.heap.size + 1) (fun pre W => I pre W ∧ Bk .ready none W) (fun pre W => ∃ c, Ix c pre W ∧ Bk .done (some c) W) V hbV (fun s A B h k => ⟨hIT _ _ _ h.1 k, hBT _ _ _ _ h.2 k⟩) ?_ ⟨hVI, hVl, hVd⟩).mono ?_
    · rintro pre x A0 A ⟨hi0, hb0⟩ hkt ⟨hi, hb⟩ hy0
      have hy := run_yield (P := P) (args := encs x) hb.1 (hps x)
      refine ⟨fn, _, assign, body, hy, roundIn_of_wpIn hfn (hassign _ x A _ ?_)⟩
      refine ⟨_, run_beginRound hb.1 rfl, ?_⟩
      have hb2 := hBput .ready none .busy none A hb
      refine wpIn_mono (hbody _ pre x A0 _ hi0 (keepC_turned hkt hb.1 rfl) (hI _ _ _ _ _ hi (by omega) hb.1 rfl) (hYt _ _ _ _ _ _ _ hy0 (by omega) hb.1 rfl)) ?_
      have hk1 : Kp A (A.putObj (w.heap.size + 1) (.loop (R .busy none))) := hKb _ _ _ _ (by omega) hb.1 rfl
      rintro e a3 B hp
      have fin : ∀ (j : Option Code), KeepsOthers (A.putObj (w.heap.size + 1) (.loop (R .busy none))) B → (Instr.endRound (w.heap.size + 1) j).run P B = .ok (.bool j.isNone) (B.putObj (w.heap.size + 1) (.loop (R (if j.isNone then .ready else .done) j))) ∧ Bk .busy none B := fun j hk => by
        have hB := hBK _ _ _ _ hb2 hk
        exact ⟨run_endRound (P := P) j hB.1, hB⟩
      cases e with
      | normal =>
        obtain ⟨hk, hkp, hi3⟩ := hp
        obtain ⟨hr, hB⟩ := fin none hk
        exact ⟨_, _, hr, .inl ⟨rfl, ⟨hI _ _ _ _ _ hi3 (by omega) hB.1 rfl, hBput _ _ .ready none _ hB⟩, hKt (hKt hk1 hkp) (hKb _ _ _ _ (by omega) hB.1 rfl)⟩⟩
      | ret =>
        obtain ⟨hk, hkp, hi3⟩ := hp
        obtain ⟨hr, hB⟩ := fin (some .ret) hk
        exact ⟨_, _, hr, .inr ⟨rfl, ⟨_, hIx _ _ _ _ _ _ hi3 (by omega) hB.1 rfl, hBput _ _ .done (some .ret) _ hB⟩, hKt (hKt hk1 hkp) (hKb _ _ _ _ (by omega) hB.1 rfl)⟩⟩
      | exit id =>
        obtain ⟨hk, hkp, hi3⟩ := hp
        obtain ⟨hr, hB⟩ := fin (some (.exit id)) hk
        exact ⟨_, _, hr, .inr ⟨rfl, ⟨_, hIx _ _ _ _ _ _ hi3 (by omega) hB.1 rfl, hBput _ _ .done (some (.exit id)) _ hB⟩, hKt (hKt hk1 hkp) (hKb _ _ _ _ (by omega) hB.1 rfl)⟩⟩
      | goto t => exact hp.elim
      | panic ch => exact hp.elim
      | outgrown => exact hp.elim
    · rintro e W2 ⟨⟨v, rfl⟩, ⟨xs, hs, hi, hb⟩ | ⟨pre, hs, c, hi, hb⟩⟩
      · exact ⟨none, _, run_endLoop (P := P) hb.1 (by simp [R]), hdone _ xs _ (Nat.le_refl _) (hS _ _ _ _ _ hs (by omega) hb.1 rfl) (hI _ _ _ _ _ hi (by omega) hb.1 rfl) ((World.putObj_heap_other (by omega)).trans hb.2)⟩
      · exact ⟨some c, _, run_endLoop (P := P) hb.1 (by simp [R]), hstop _ c pre _ (Nat.le_refl _) (hSp _ _ _ _ _ hs (by omega) hb.1 rfl) (hIx _ _ _ _ _ _ hi (by omega) hb.1 rfl) ((World.putObj_heap_other (by omega)).trans hb.2)⟩
end
section
open Go.RowKit Go.Shelf
attribute [local go_sem] Oper.semAt_some
set_option linter.unusedVariables false
set_option linter.unusedSimpArgs false

/-- what comes: a slice of new bytes -/
structure Yd where
  A : Option Addr
  n : Nat
  c : Nat
  bs : List Int
theorem KeepC.row {S : Nat → Prop} {W W' : World} (h : KeepC S W W') {base size n : Nat} {e : TypeId} {v : Value} {xs : List Value} (hr : W.ownsRow base e size v n xs) (hs : ∀ g, v.ownBlock = some g → ¬ S g) : W'.ownsRow base e size v n xs := by
  refine ⟨hr.1, hr.2.imp id ?_⟩
  rintro ⟨g, cap, cur, hv, hg, hh, r⟩
  exact ⟨g, cap, cur, hv, hg, h.2 g cur e (hs g (by rw [hv]; rfl)) hh, r⟩
theorem PAt.keepC {R : Nat → Prop} {S G : Nat → Prop} {w w' : World} {b : Nat} {v : Value} {l : List Msg} {room : Int} (h : PAt R w G b v l room) (hk : KeepC S w w') (hs : ∀ q, G q ∨ R q → ¬ S q) : PAt R w' G b v l room :=
  ⟨hk.blk h.str (hs b (.inl h.gb)), hk.row h.row (fun g hg => hs g (.inl (h.gv g hg))), fun m hm => ⟨hk.row (h.by' m hm).1 (fun g hg => hs g ((h.by' m hm).2.2.2 g hg).1), (h.by' m hm).2⟩, h.gb, h.gv⟩
/-- k messages have been taken -/
def PTook (R : Nat → Prop) (G : Nat → Prop) (b : Nat) (ob : Option Nat) (l : List Msg) (room : Int) (k : Nat) (W : World) : Prop := ∃ v, PAt R W G b v (l.drop k) room ∧ v.ownBlock = ob
theorem PTook.keep {R : Nat → Prop} {S G : Nat → Prop} {b : Nat} {ob : Option Nat} {l : List Msg} {room : Int} {k : Nat} {W W' : World} (h : PTook R G b ob l room k W) (hk : Keep S W W') (hs : ∀ q, G q ∨ R q → ¬ S q) : PTook R G b ob l room k W' := by
  obtain ⟨v, h1, h2⟩ := h
  exact ⟨v, h1.keep hk hs, h2⟩
theorem PTook.keepC {R : Nat → Prop} {S G : Nat → Prop} {b : Nat} {ob : Option Nat} {l : List Msg} {room : Int} {k : Nat} {W W' : World} (h : PTook R G b ob l room k W) (hk : KeepC S W W') (hs : ∀ q, G q ∨ R q → ¬ S q) : PTook R G b ob l room k W' := by
  obtain ⟨v, h1, h2⟩ := h
  exact ⟨v, h1.keepC hk hs, h2⟩
/-- what the iterator tells at a round -/
def YdOk (R : Nat → Prop) (G : Nat → Prop) (b : Nat) (ob : Option Nat) (l : List Msg) (room now : Int) (pre : List Yd) (x : Yd) (N0 : Nat) (W : World) : Prop :=
  (∃ m, l[pre.length]? = some m ∧ m.due ≤ now ∧ x.bs = m.bs) ∧ W.ownsRow N0 5 1 (.slice x.A x.n x.c) x.n (u8s x.bs) ∧ x.bs.length = x.n ∧ x.n ≤ 320 ∧ PTook R G b ob l room (pre.length + 1) W
def lenB (b : Nat) (W : World) : Nat := match W.cell? ⟨b, 1, none⟩ with | some (.slice _ n _) => n | _ => 0
theorem lenB_of {b n c : Nat} {A : Option Addr} {W : World} {room : Int} {T : TypeId} (h : Blk W b #[.int .i64 room, .slice A n c] T) : lenB b W = n := by unfold lenB; rw [(blk2 h).2]
set_option maxRecDepth 100000 in
theorem take_any (b : Nat) (now : Int) (w : World) : Calls Try.prog 32 #[.pointer (some ⟨b, 0, none⟩), .int .i64 now] w fun e w' => e = .returned (.func (.func 46) #[] #[.pointer (some ⟨w.heap.size, 0, none⟩), .pointer (some ⟨w.heap.size + 1, 0, none⟩)]) ∧
    Blk w' w.heap.size #[.pointer (some ⟨b, 0, none⟩)] 71 ∧ Blk w' (w.heap.size + 1) #[.int .i64 now] 3 ∧ Below w.heap.size w w' := by
  have hz : (w.alloc (.cells #[.pointer (some ⟨b, 0, none⟩)] 71)).heap.size = w.heap.size + 1 := by simp
  have h1 := (Blk.new w #[.pointer (some ⟨b, 0, none⟩)] 71).alloc (.cells #[.int .i64 now] 3)
  have h2 := Blk.new (w.alloc (.cells #[.pointer (some ⟨b, 0, none⟩)] 71)) #[.int .i64 now] 3
  rw [hz] at h2
  have h3 : Below w.heap.size w ((w.alloc (.cells #[.pointer (some ⟨b, 0, none⟩)] 71)).alloc (.cells #[.int .i64 now] 3)) := ((Below.refl _ w).alloc (Nat.le_refl _) _).alloc (by rw [hz]; omega) _
  have H1 := Lib.hid h1
  have H2 := Lib.hid h2
  have H3 := Lib.hid h3
  clear hz h1 h2 h3
  go_enter Try.func32, Try.ntmps32
  go_wp2
  go_ret
  exact ⟨rfl, H1.out, H2.out, H3.out⟩
theorem drop_cons {l : List Msg} {k : Nat} {m : Msg} (h : l[k]? = some m) : l.drop k = m :: l.drop (k + 1) := by
  obtain ⟨hk, rfl⟩ := List.getElem?_eq_some_iff.1 h
  exact List.drop_eq_getElem_cons hk
/-- what is left when one has been taken -/
theorem took_pat {R : Nat → Prop} {G : Nat → Prop} {w6 w7 : World} {b g n c : Nat} {m : Msg} {r : List Msg} {room : Int} (h : PAt R w6 G b (.slice (some ⟨g, 0, none⟩) (n + 1) c) (m :: r) room) (hr : r.length = n)
    (ho : w7.ownsRow 0 102 2 (.slice (some ⟨g, 0, none⟩) n c) n ((erase1 (m :: r) 0).flatMap msgCells)) (hk : Keep (fun q => q = g) w6 w7) :
    PAt R (w7.setCell ⟨b, 1, none⟩ (.slice (some ⟨g, 0, none⟩) n c)) G b (.slice (some ⟨g, 0, none⟩) n c) r room := by
  have hgb : g ≠ b := (h.ne rfl).1
  have hk5 : Keep (fun q => q = b) w7 (w7.setCell ⟨b, 1, none⟩ (.slice (some ⟨g, 0, none⟩) n c)) := (Keep.refl (fun q => q = b) w7).setCell (p := ⟨b, 1, none⟩) (.inl rfl) _
  refine ⟨(h.str.keep hk (fun e => hgb e.symm)).set' rfl, ?_, fun x hx => ?_, h.gb, fun q hq => by cases hq; exact h.gv g rfl⟩
  · rw [hr]
    exact ownsRow_keep ho hk5 (fun q hq e => by cases hq; exact hgb e)
  · have h1 := h.by' x (List.mem_cons_of_mem _ hx)
    have h2 := (h1.keep hk (fun q hq e => hq.2.2 (by rw [e]; rfl))).keep hk5 (fun q hq e => hq.2.1 e)
    exact h2.mono (fun q hq _ => hq)
set_option maxRecDepth 100000 in
set_option maxHeartbeats 4000000 in
theorem take1_in {R : Nat → Prop} (n0 : Nat) (hn0 : 1 ≤ n0) (lp pB pN b N0 : Nat) (ob : Option Nat) (l : List Msg) (room now : Int) (G Sx : Nat → Prop) (J Jx : List Yd → World → Prop) (W : World) (hN : N0 ≤ W.heap.size)
    (hG : ∀ q, G q ∨ R q → ¬ Sx q ∧ q < N0) (hGb : G b) (hGo : ∀ g, ob = some g → G g) (hpB : ¬ G pB ∧ ¬ Sx pB ∧ pB < N0) (hpN : ¬ G pN ∧ ¬ Sx pN ∧ pN < N0) (hll : l.length ≤ 100000)
    (hJ : ∀ s A B, J s A → Keep (fun q => q = b ∨ ob = some q) A B → J s B)
    (hY : ∀ pre x A0 A, J pre A0 → Keep (fun q => q = b ∨ ob = some q) A0 A → J pre A → YdOk R G b ob l room now pre x A0.heap.size A → YieldAt Fence.wide (n0 - 1) Try.prog lp #[.slice x.A x.n x.c] A fun e B =>
      (e = .returned (.bool true) ∧ J (pre ++ [x]) B ∧ KeepC Sx A B) ∨ (e = .returned (.bool false) ∧ Jx (pre ++ [x]) B ∧ KeepC Sx A B))
    (hB : Blk W pB #[.pointer (some ⟨b, 0, none⟩)] 71) (hNw : Blk W pN #[.int .i64 now] 3) (hS : PTook R G b ob l room 0 W) (h0 : J [] W) :
    CallsIn Fence.wide n0 Try.prog 46 #[.func (.yield lp) #[] #[], .pointer (some ⟨pB, 0, none⟩), .pointer (some ⟨pN, 0, none⟩)] W fun e W' => (∃ v, e = .returned v) ∧
      ((∃ xs : List Yd, (PTook R G b ob l room xs.length W' ∧ xs.length = dueN l now) ∧ J xs W') ∨ (∃ pre : List Yd, (PTook R G b ob l room pre.length W' ∧ pre.length ≤ dueN l now) ∧ Jx pre W')) := by
  have HS := Lib.hid hS
  have HY := Lib.hid hY
  have HJ := Lib.hid hJ
  have HG := Lib.hid hG
  have HGO := Lib.hid hGo
  have HPB := Lib.hid hB
  have HPN := Lib.hid hNw
  have HDL : Hid (dueN l now ≤ l.length) := dueN_le l now
  clear hS hY hJ hG hGo hB hNw
  refine callsIn_of_wp Try.func46 rfl trivial ?_ rfl
  simp only [Try.ntmps46, List.size_toArray, List.length_cons, List.length_nil, Nat.reduceAdd, Nat.reduceSub, Array.replicate_succ, Array.replicate_zero, List.push_toArray, List.append_toArray, List.nil_append, List.cons_append]
  gi_wp2
  gi_loopw [4] (fun _ wr => ∃ pre : List Yd, pre.length ≤ l.length ∧ Hid (pre.length ≤ dueN l now) ∧ J pre wr ∧ Hid (PTook R G b ob l room pre.length wr) ∧ Hid (Blk wr pB #[.pointer (some ⟨b, 0, none⟩)] 71) ∧ Hid (Blk wr pN #[.int .i64 now] 3) ∧ Hid (N0 ≤ wr.heap.size)) (fun _ wr => lenB b wr)
  case atStart => exact ⟨[], Nat.zero_le _, Nat.zero_le _, h0, HS, HPB, HPN, hN⟩
  case round =>
    obtain ⟨pre, hpl, HPD, hJp, HT, HB, HNw, HNS⟩ := hrel
    obtain ⟨v, hP, hob⟩ := HT.out
    have HP := Lib.hid hP
    have HOB := Lib.hid hob
    have b0 := HB.out.cell 0 (v := .pointer (some ⟨b, 0, none⟩)) rfl
    have n1 := HNw.out.cell 0 (v := .int .i64 now) rfl
    by_cases hlt : pre.length < l.length
    · obtain ⟨m, hm⟩ : ∃ m, l[pre.length]? = some m := ⟨_, List.getElem?_eq_getElem hlt⟩
      have hdr := drop_cons hm
      rw [hdr] at HP hP
      obtain ⟨g, p, c, he, o0, o1⟩ := MsgsAt.at hP.msgs (k := 0) (a := m) rfl
      have hp0 : p = 0 := by
        rcases hP.row.2 with ⟨hv, h0⟩ | ⟨g', cap, cur, hv, _⟩
        · rw [hv] at he; cases he
        · rw [hv] at he; cases he; rfl
      subst hp0
      obtain ⟨n, hn⟩ : ∃ n, n = (l.drop (pre.length + 1)).length := ⟨_, rfl⟩
      have hn1 : (m :: l.drop (pre.length + 1)).length = n + 1 := by rw [List.length_cons, ← hn]
      rw [hn1] at he
      subst he
      have HNN := Lib.hid hn
      obtain ⟨c0, c1⟩ := blk2 hP.str
      replace o0 : wr.cell? ⟨g, 0, none⟩ = some (.int .i64 m.due) := by simpa using o0
      replace o1 : wr.cell? ⟨g, 1, none⟩ = some (.slice m.A m.n m.c) := by simpa using o1
      have HM := Lib.hid hm
      have HMO := Lib.hid (hP.by' m (by simp))
      have hgb : ¬ g = b := (hP.ne rfl).1
      have HGG : Hid (G g) := hP.gv g rfl
      have hpg : ¬ pB = g := fun e => hpB.1 (by rw [e]; exact HGG.out)
      have i0 : decide ((0 : Int) < ((n + 1 : Nat) : Int)) = true := decide_eq_true (by omega)
      have i1 : (0 : Int) < ((n + 1 : Nat) : Int) := by omega
      clear hm hdr hP hob hn hn1
      by_cases hd : m.due ≤ now
      · have d1 : decide (m.due ≤ now) = true := decide_eq_true hd
        gi_wp2
        rw [wpIn_wide]
        go_quiet (fail)
        have hk5 : Keep (fun q => q = b ∨ ob = some q) wr (wr.drewN nq) := (Keep.refl _ wr).drewN nq
        have hJ5 := HJ.out _ _ _ hJp hk5
        have HP5 := Lib.hid (HP.out.below (below_drewN (Below.refl _ wr) nq))
        have HB5 := Lib.hid (HB.out.drewN nq)
        have HN5 := Lib.hid (HNw.out.drewN nq)
        have HMO5 := Lib.hid (HMO.out.keep ((Keep.refl (fun _ => False) wr).drewN nq) (fun _ _ => id))
        have HNS5 : Hid (N0 ≤ (wr.drewN nq).heap.size) := HNS.out
        have HL5 : Hid (lenB b wr = n + 1) := lenB_of HP.out.str
        replace b0 : (wr.drewN nq).cell? ⟨pB, 0, none⟩ = some (.pointer (some ⟨b, 0, none⟩)) := b0
        replace c1 : (wr.drewN nq).cell? ⟨b, 1, none⟩ = some (.slice (some ⟨g, 0, none⟩) (n + 1) c) := c1
        replace o1 : (wr.drewN nq).cell? ⟨g, 1, none⟩ = some (.slice m.A m.n m.c) := o1
        clear hk5 hJp n1 c0 o0 d1
        obtain ⟨w5, hw5⟩ : ∃ w5, w5 = wr.drewN nq := ⟨_, rfl⟩
        rw [← hw5] at hJ5 HP5 HB5 HN5 HMO5 HNS5 b0 c1 o1 ⊢
        clear hw5
        gi_wp2
        refine ⟨trivial, (callsIn_wide.2 (clone_byte (.slice m.A m.n m.c) m.n (u8s m.bs) w5 (Reads.of_owns HMO5.out.1) (by have := HMO5.out.2.2.1; omega) (u8s_one m.bs))).mono ?_⟩
        rintro e w6 ⟨A6, c6, rfl, ho6, hb6, -⟩
        have hJ6 := HJ.out _ _ _ hJ5 (Keep.ofBelowAll hb6)
        have HO6 : Hid (w6.drew.ownsRow w5.heap.size 5 1 (.slice A6 m.n c6) m.n (u8s m.bs)) := ho6
        have hbd : Below w5.heap.size w5 w6.drew := bmore hb6 (below_drewN (Below.refl _ w6) 1) hb6.size
        have HP6 := Lib.hid (HP5.out.below hbd)
        have HBD := Lib.hid hbd
        have HJ5 : Hid (J pre w5) := hJ5
        have HNS6 : Hid (N0 ≤ w6.drew.heap.size) := Nat.le_trans HNS5.out hbd.size
        have HB6 := Lib.hid (HB5.out.below hbd)
        have HN6 := Lib.hid (HN5.out.below hbd)
        have hJ6d := HJ.out _ _ _ hJ6 ((Keep.refl _ w6).drew)
        have hdel := delete_msg 0 g n 0 c (m :: l.drop (pre.length + 1)) w6.drew (by rw [List.length_cons, ← HNN.out]) (Nat.zero_le _) msg_one (by have := HNN.out; rw [List.length_drop] at this; omega) (by have := HP6.out.row; rw [List.length_cons, ← HNN.out] at this; exact this)
        have HDEL : Hid (Calls Try.prog 48 #[.slice (some ⟨g, 0, none⟩) (n + 1) c, .int .i64 0, .int .i64 1] w6.drew fun e w' => e = .returned (.slice (some ⟨g, 0, none⟩) n c) ∧
          w'.ownsRow 0 102 2 (.slice (some ⟨g, 0, none⟩) n c) n ((erase1 (m :: l.drop (pre.length + 1)) 0).flatMap msgCells) ∧ Keep (fun k => k = g) w6.drew w') := hdel
        clear ho6 hb6 hbd hdel hJ5 hJ6 b0 c1 o1
        gi_wp2
        rw [wpIn_wide]
        refine wp_region_heldT (S := fun w' => Blk w' pB #[.pointer (some ⟨b, 0, none⟩)] 71 ∧ Blk w' b #[.int .i64 room, .slice (some ⟨g, 0, none⟩) (n + 1) c] 98) 8 (by kernel_rfl) ⟨HB6.out, HP6.out.str⟩ (fun hHeld => ?_)
        refine heldT_takeC [] (i := 0) (v := ?_) rfl (by kernel_rfl) (by kernel_rfl) (by kernel_rfl) (by kernel_rfl) (fun _ _ _ h => h) (Or.inl ⟨by rfl, ?_⟩) hHeld ?_
        rotate_left 1
        · intro wS hSw; obtain ⟨s1, s2⟩ := hSw; have p0 := s1.cell 0 (v := .pointer (some ⟨b, 0, none⟩)) rfl; obtain ⟨e0, e1⟩ := blk2 s2; clear s1 s2; go_simp <;> with_reducible rfl
        (try simp only [Act.put, List.setIfInBounds_toArray, List.set_cons_zero, List.set_cons_succ])
        refine heldT_takeC [] (i := 1) (v := ?_) rfl (by kernel_rfl) (by kernel_rfl) (by kernel_rfl) (by kernel_rfl) (fun _ _ _ h => h) (Or.inl ⟨by rfl, ?_⟩) hHeld ?_
        rotate_left 1
        · intro wS hSw; obtain ⟨s1, s2⟩ := hSw; have p0 := s1.cell 0 (v := .pointer (some ⟨b, 0, none⟩)) rfl; obtain ⟨e0, e1⟩ := blk2 s2; clear s1 s2; go_simp <;> with_reducible rfl
        (try simp only [Act.put, List.setIfInBounds_toArray, List.set_cons_zero, List.set_cons_succ])
        refine heldT_free (i := 2) (v := ?_) rfl (by kernel_rfl) (by kernel_rfl) (by kernel_rfl) (by kernel_rfl) (fun _ _ _ h => h) (Or.inl ⟨by rfl, ?_⟩) hHeld ?_
        rotate_left 1
        · intro wS; go_simp <;> with_reducible rfl
        (try simp only [Act.put, List.setIfInBounds_toArray, List.set_cons_zero, List.set_cons_succ])
        refine heldT_free (i := 3) (v := ?_) rfl (by kernel_rfl) (by kernel_rfl) (by kernel_rfl) (by kernel_rfl) (fun _ _ _ h => h) (Or.inl ⟨by rfl, ?_⟩) hHeld ?_
        rotate_left 1
        · intro wS; go_simp <;> with_reducible rfl
        (try simp only [Act.put, List.setIfInBounds_toArray, List.set_cons_zero, List.set_cons_succ])
        refine heldT_takeC [] (i := 4) (v := ?_) rfl (by kernel_rfl) (by kernel_rfl) (by kernel_rfl) (by kernel_rfl) (fun _ _ _ h => h) (Or.inl ⟨by rfl, ?_⟩) hHeld ?_
        rotate_left 1
        · intro wS hSw; obtain ⟨s1, s2⟩ := hSw; have p0 := s1.cell 0 (v := .pointer (some ⟨b, 0, none⟩)) rfl; obtain ⟨e0, e1⟩ := blk2 s2; clear s1 s2; go_simp <;> with_reducible rfl
        (try simp only [Act.put, List.setIfInBounds_toArray, List.set_cons_zero, List.set_cons_succ])
        refine heldT_one (j := 5) (by kernel_rfl) (by kernel_rfl) rfl (fun K hK => ?_)
        go_simp
        go_at_call 48
        refine HDEL.out.mono ?_
        rintro e w4 ⟨rfl, ho4, hk4⟩
        have HO4 := Lib.hid ho4
        have HK4 := Lib.hid hk4
        have HS4 := Lib.hid (HP6.out.str.keep hk4 (fun e => hgb e.symm))
        have HPB4 := Lib.hid (HB6.out.keep hk4 hpg)
        clear ho4 hk4
        go_wp2_with fail
        refine hK.out _ _ ⟨HPB4.out, HS4.out⟩ (fun hHeld => ?_)
        clear hK K
        (try simp only [Act.put, List.setIfInBounds_toArray, List.set_cons_zero, List.set_cons_succ])
        refine heldT_free (i := 6) (v := ?_) rfl (by kernel_rfl) (by kernel_rfl) (by kernel_rfl) (by kernel_rfl) (fun _ _ _ h => h) (Or.inl ⟨by rfl, ?_⟩) hHeld ?_
        rotate_left 1
        · intro wS; go_simp <;> with_reducible rfl
        (try simp only [Act.put, List.setIfInBounds_toArray, List.set_cons_zero, List.set_cons_succ])
        refine heldT_free (i := 7) (v := ?_) rfl (by kernel_rfl) (by kernel_rfl) (by kernel_rfl) (by kernel_rfl) (fun _ _ _ h => h) (Or.inl ⟨by rfl, ?_⟩) hHeld ?_
        rotate_left 1
        · intro wS; go_simp <;> with_reducible rfl
        (try simp only [Act.put, List.setIfInBounds_toArray, List.set_cons_zero, List.set_cons_succ])
        refine heldT_tail (by kernel_rfl) rfl rfl (by kernel_rfl) ?_
        (try simp only [List.drop_succ_cons, List.drop_zero])
        have s1 := (blk2 HS4.out).2
        have f1 := HS4.out.frozen 1
        go_wp2_with fail
        refine NoPanic.normal ?_
        have hgo : ob = some g := HOB.out.symm
        have HT8 : Hid (PTook R G b ob l room (pre.length + 1) (w4.setCell ⟨b, 1, none⟩ (.slice (some ⟨g, 0, none⟩) n c))) := ⟨_, took_pat HP6.out HNN.out.symm HO4.out HK4.out, HOB.out⟩
        have hk8 : Keep (fun q => q = b ∨ ob = some q) w6.drew (w4.setCell ⟨b, 1, none⟩ (.slice (some ⟨g, 0, none⟩) n c)) := (HK4.out.mono (fun q _ e => .inr (by rw [e]; exact hgo))).setCell (p := ⟨b, 1, none⟩) (.inl (.inl rfl)) _
        have hJ8 := HJ.out _ _ _ hJ6d hk8
        have hno : ∀ q, q = pB ∨ q = pN ∨ w5.heap.size ≤ q → ¬ (q = b ∨ ob = some q) := fun q hq e => by
          have hq2 : G q := e.elim (fun e => e ▸ hGb) (fun e => HGO.out q e)
          rcases hq with rfl | rfl | hq
          · exact hpB.1 hq2
          · exact hpN.1 hq2
          · have := (HG.out q (.inl hq2)).2; have := HNS5.out; omega
        have HB8 := Lib.hid (HB6.out.keep hk8 (hno pB (.inl rfl)))
        have HN8 := Lib.hid (HN6.out.keep hk8 (hno pN (.inr (.inl rfl))))
        have HO8 := Lib.hid (ownsRow_keep HO6.out hk8 (fun q hq => hno q (.inr (.inr (HO6.out.lt q hq).1))))
        have HK58 := Lib.hid (((Keep.ofBelowAll HBD.out : Keep (fun q => q = b ∨ ob = some q) w5 w6.drew)).trans hk8 (fun _ _ h => h))
        have HNS8 : Hid (N0 ≤ (w4.setCell ⟨b, 1, none⟩ (.slice (some ⟨g, 0, none⟩) n c)).heap.size) := Nat.le_trans HNS6.out hk8.size
        have HYD : Hid (YdOk R G b ob l room now pre ⟨A6, m.n, c6, m.bs⟩ w5.heap.size (w4.setCell ⟨b, 1, none⟩ (.slice (some ⟨g, 0, none⟩) n c))) := ⟨⟨m, HM.out, hd, rfl⟩, HO8.out, HMO5.out.2.1, HMO5.out.2.2.1, HT8.out⟩
        have HDD : Hid (pre.length + 1 ≤ dueN l now) := by
          show _ ≤ _
          rcases Nat.lt_or_ge pre.length (dueN l now) with h | h
          · omega
          · have e1 : pre.length = dueN l now := Nat.le_antisymm HPD.out h
            have := dueN_at (l := l) (now := now) (m := m) (by rw [← e1]; exact HM.out)
            omega
        clear hno hk8 hJ6d s1 f1 hgo
        generalize w4.setCell ⟨b, 1, none⟩ (.slice (some ⟨g, 0, none⟩) n c) = w8 at *
        obtain ⟨fn, tmps, assign, body, hy, hR⟩ := HY.out pre ⟨A6, m.n, c6, m.bs⟩ w5 w8 HJ5.out HK58.out hJ8 HYD.out
        gi_wp2
        refine hR.mono ?_
        rintro e W3 (⟨rfl, hJ3, hk3⟩ | ⟨rfl, hJx3, hk3⟩)
        · have HT3 := Lib.hid (HT8.out.keepC hk3 (fun q hq => (HG.out q hq).1))
          have HB3 := Lib.hid (hk3.blk HB8.out hpB.2.1)
          have HN3 := Lib.hid (hk3.blk HN8.out hpN.2.1)
          have HNS3 : Hid (N0 ≤ W3.heap.size) := Nat.le_trans HNS8.out hk3.1
          have HL3 : Hid (lenB b W3 = n) := by
            obtain ⟨v3, h3, -⟩ := HT3.out
            obtain ⟨A3, c3, hv3⟩ := h3.slice
            have h4 := h3.str
            rw [hv3] at h4
            exact (lenB_of h4).trans HNN.out.symm
          clear hk3 hy hR
          gi_wp2
          go_roundw
          case rel => exact ⟨pre ++ [⟨A6, m.n, c6, m.bs⟩], by simp; omega, by show _ ≤ _; rw [List.length_append]; exact HDD.out, hJ3, by show PTook R _ _ _ _ _ _ _; rw [List.length_append]; exact HT3.out, HB3, HN3, HNS3⟩
          case measure => rw [HL5.out, HL3.out]; omega
        · have HT3 := Lib.hid (HT8.out.keepC hk3 (fun q hq => (HG.out q hq).1))
          gi_wp2
          refine bodyPost_ret (results_none rfl _ _ _) rfl ?_
          exact ⟨⟨_, rfl⟩, .inr ⟨pre ++ [⟨A6, m.n, c6, m.bs⟩], by rw [List.length_append]; exact ⟨HT3.out, HDD.out⟩, hJx3⟩⟩
      · have d1 : decide (m.due ≤ now) = false := decide_eq_false hd
        have HE1 : Hid (pre.length = dueN l now) := dueN_eq HM.out (by omega) HPD.out
        gi_wp2
        rw [wpIn_wide]
        go_quiet (fail)
        have hJ5 := HJ.out _ _ _ hJp ((Keep.refl (fun q => q = b ∨ ob = some q) wr).drewN nq)
        have HT5 := Lib.hid (HT.out.keep ((Keep.refl (fun _ => False) wr).drewN nq) (fun _ _ => id))
        gi_wp2
        go_end0
        exact ⟨⟨_, rfl⟩, .inl ⟨pre, ⟨HT5.out, HE1.out⟩, hJ5⟩⟩
    · have hdr : l.drop pre.length = [] := List.drop_eq_nil_of_le (by omega)
      rw [hdr] at hP
      obtain ⟨A, k, rfl⟩ := hP.slice
      obtain ⟨c0, c1⟩ := blk2 hP.str
      have HE1 : Hid (pre.length = dueN l now) := by
        show _ = _
        have h1 := HPD.out
        have h2 := HDL.out
        omega
      have i0 : decide ((0 : Int) < (([] : List Msg).length : Int)) = false := by decide
      simp only [List.length_nil] at c1
      clear hdr hP hob HP HOB
      gi_wp2
      rw [wpIn_wide]
      go_quiet (fail)
      have hJ5 := HJ.out _ _ _ hJp ((Keep.refl (fun q => q = b ∨ ob = some q) wr).drewN nq)
      have HT5 := Lib.hid (HT.out.keep ((Keep.refl (fun _ => False) wr).drewN nq) (fun _ _ => id))
      gi_wp2
      go_end0
      exact ⟨⟨_, rfl⟩, .inl ⟨pre, ⟨HT5.out, HE1.out⟩, hJ5⟩⟩
end
section
open Go.RowKit Go.Shelf
attribute [local go_sem] Oper.semAt_some
set_option linter.unusedVariables false
set_option linter.unusedSimpArgs false

theorem conv_zero (w : World) (p : Option Addr) (c : Nat) : (convert 23 9 (.slice p 0 c)).run Try.prog w = .ok (.string (strOfNums [])) w := by
  rw [run_convert_bytes_string w _ _ _ _ 0 c Try.underlying23 Try.underlying5 Try.underlying9]
  cases p <;> simp [Conv.bytesToString, loadCells]
  all_goals rfl
theorem conv_ints {w : World} {A : Option Addr} {n c : Nat} {l : List Int} (h : Reads w 1 (.slice A n c) n (u8s l)) :
    (convert 23 9 (.slice A n c)).run Try.prog w = .ok (.string (strOfNums l)) w := by
  have hl : l.length = n := by have := h.len; unfold u8s at this; rw [List.length_map] at this; omega
  rcases Nat.eq_zero_or_pos n with hn | hn
  · subst hn
    obtain rfl : l = [] := List.eq_nil_of_length_eq_zero hl
    exact conv_zero w A c
  · obtain ⟨B, o, c', he, -⟩ := h.at 0 (.int .u8 (l[0]'(by omega))) (by unfold u8s; rw [List.getElem?_map, List.getElem?_eq_getElem (by omega)]; rfl)
    cases he
    refine run_convert_bytes_arg (P := Try.prog) w _ _ Try.underlying23 Try.underlying5 B o n c l hl (fun i hi => ?_) _ Try.underlying9
    obtain ⟨B', o', c', he, hc⟩ := h.at i (.int .u8 (l[i]'(by omega))) (by unfold u8s; rw [List.getElem?_map, List.getElem?_eq_getElem (by omega)]; rfl)
    cases he
    rw [hc]
    simp [show i < l.length by omega]
theorem reads_newm (w : World) (cs : Array Value) (E : TypeId) (fr : Nat × Nat) (n : Nat) (h : cs.size = n) (hn : n ≤ 1000000) : Reads (w.alloc (.cells cs E fr)) 1 (.slice (some ⟨w.heap.size, 0, none⟩) n n) n cs.toList :=
  ⟨by simpa using h, _, n, rfl, Nat.le_refl _, by unfold maxLen; omega, fun ha => (by cases ha), fun a ha _ => by cases ha; exact ⟨rfl, by simp⟩, fun j u hu => ⟨_, rfl, by
    rw [Nat.zero_add, cell_of_row _ _ _ _ _ _ (heap_alloc_new w _)]; simpa using hu⟩⟩
def putE (l : List Msg) (room due : Int) (n : Nat) : Int := if due < 0 ∨ 2199023255552 < due ∨ 320 < n then 11 else if room ≤ l.length then 15 else 0
/-- what Put leaves -/
structure PutR (R : Nat → Prop) (w w' : World) (G : Nat → Prop) (b : Nat) (l : List Msg) (room due : Int) (n : Nat) (bs : List Int) : Prop where
  ex : ∃ v' l', PAt R w' (fun q => G q ∨ w.heap.size ≤ q) b v' l' room ∧ ((putE l room due n ≠ 0 ∧ l' = l) ∨ (putE l room due n = 0 ∧ ∃ m, l' = put1 l (dueN l due) m ∧ m.due = due ∧ m.bs = bs))
  kp : Keep G w w'
theorem put_any {R : Nat → Prop} {G : Nat → Prop} (b : Nat) (v : Value) (l : List Msg) (room due : Int) (A0 : Option Addr) (n c : Nat) (bs : List Int) (w : World) (h : PAt R w G b v l room) (hn : l.length ≤ 100000) (hr : 0 ≤ room ∧ room ≤ 1000) (hx : Reads w 1 (.slice A0 n c) n (u8s bs)) (hb : bs.length = n) :
    Calls Try.prog 56 #[.pointer (some ⟨b, 0, none⟩), .int .i64 due, .slice A0 n c] w fun e w' => e = .returned (.int .i64 (putE l room due n)) ∧ PutR R w w' G b l room due n bs := by
  by_cases h1 : due < 0 ∨ 2199023255552 < due ∨ 320 < n
  · have he : putE l room due n = 11 := if_pos h1
    rw [he]
    refine (put_range (G := G) b v l room due A0 n c w h1).mono ?_
    rintro e w' ⟨rfl, rfl⟩
    exact ⟨rfl, ⟨v, l, h.mono (fun q hq _ => .inl hq), .inl ⟨by rw [he]; decide, rfl⟩⟩, Keep.refl _ _⟩
  · by_cases h2 : room ≤ l.length
    · have he : putE l room due n = 15 := by unfold putE; rw [if_neg h1, if_pos h2]
      rw [he]
      refine (put_full b v l room due A0 n c w h (by omega) hr (by omega) (by omega) (by omega) h2).mono ?_
      rintro e w' ⟨rfl, hb'⟩
      exact ⟨rfl, ⟨v, l, (h.below hb').mono (fun q hq _ => .inl hq), .inl ⟨by rw [he]; decide, rfl⟩⟩, Keep.ofBelowAll hb'⟩
    · have he : putE l room due n = 0 := by unfold putE; rw [if_neg h1, if_neg h2]
      rw [he]
      refine (put_ok b v l room due A0 n c bs w h (by omega) hr (by omega) (by omega) (by omega) (by omega) hx hb).mono ?_
      rintro e w' ⟨rfl, v', m, h3, h4, h5, h6, h7⟩
      exact ⟨rfl, ⟨v', _, h3, .inr ⟨he, m, rfl, h4, h5⟩⟩, h7⟩
/-- the iterator as its caller sees it -/
theorem take_seq {R : Nat → Prop} (n0 : Nat) (hn0 : 1 ≤ n0) (pB pN b : Nat) (ob : Option Nat) (l : List Msg) (room now : Int) (G Sx : Nat → Prop) (w : World)
    (hG : ∀ q, G q ∨ R q → ¬ Sx q ∧ q < w.heap.size) (hGb : G b) (hGo : ∀ g, ob = some g → G g) (hpB : ¬ G pB ∧ ¬ Sx pB) (hpN : ¬ G pN ∧ ¬ Sx pN) (hll : l.length ≤ 100000)
    (hB : Blk w pB #[.pointer (some ⟨b, 0, none⟩)] 71) (hNw : Blk w pN #[.int .i64 now] 3) (hS : PTook R G b ob l room 0 w) :
    SeqOwnY Fence.wide n0 Try.prog 46 #[.pointer (some ⟨pB, 0, none⟩), .pointer (some ⟨pN, 0, none⟩)] (fun x : Yd => #[.slice x.A x.n x.c]) (KeepC Sx) (fun q => q = b ∨ ob = some q)
      (YdOk R G b ob l room now) (fun xs W => PTook R G b ob l room xs.length W ∧ xs.length = dueN l now) (fun pre W => PTook R G b ob l room pre.length W ∧ pre.length ≤ dueN l now) w :=
  fun lp J Jx W hW hJ hY h0 => take1_in n0 hn0 lp pB pN b w.heap.size ob l room now G Sx J Jx W hW.size hG hGb hGo ⟨hpB.1, hpB.2, hB.lt⟩ ⟨hpN.1, hpN.2, hNw.lt⟩ hll hJ hY (hB.below hW) (hNw.below hW) (hS.keep (Keep.none hW) (fun _ _ => id)) h0
theorem PTook.turn {R : Nat → Prop} {G : Nat → Prop} {b : Nat} {ob : Option Nat} {l : List Msg} {room : Int} {k : Nat} {W : World} (h : PTook R G b ob l room k W) {q : Nat} {o o' : Obj} (ho : W.heap[q]? = some o) (hc : o.isCells = false) : PTook R G b ob l room k (W.putObj q o') := by
  have hk : KeepC (fun _ => False) W (W.putObj q o') := by
    refine ⟨by simp, fun k cs T _ hk => ?_⟩
    by_cases e : k = q
    · subst e
      rw [hk] at ho
      cases ho
      cases hc
    · exact (World.putObj_heap_other e).trans hk
  exact h.keepC hk (fun _ _ => id)
theorem keepC_turn {W : World} {q : Nat} {o o' : Obj} (ho : W.heap[q]? = some o) (hc : o.isCells = false) (S : Nat → Prop) : KeepC S W (W.putObj q o') := by
  refine ⟨by simp, fun k cs T _ hk => ?_⟩
  by_cases e : k = q
  · subst e
    rw [hk] at ho
    cases ho
    cases hc
  · exact (World.putObj_heap_other e).trans hk
theorem YdOk.turn {R : Nat → Prop} {N0 : Nat} {G : Nat → Prop} {b : Nat} {ob : Option Nat} {l : List Msg} {room now : Int} {pre : List Yd} {x : Yd} {W : World} (h : YdOk R G b ob l room now pre x N0 W) {q : Nat} {o o' : Obj} (ho : W.heap[q]? = some o) (hc : o.isCells = false) : YdOk R G b ob l room now pre x N0 (W.putObj q o') :=
  ⟨h.1, (keepC_turn ho hc (fun _ => False)).row h.2.1 (fun _ _ => id), h.2.2.1, h.2.2.2.1, h.2.2.2.2.turn ho hc⟩
/-- from a base world on, but for some boxes -/
def NoR : Nat → Prop := fun _ => False
def Far (w0 : World) (X : Nat → Prop) (q : Nat) : Prop := w0.heap.size ≤ q ∧ ¬ X q
theorem PAt.far {R : Nat → Prop} {w0 w w' : World} {X : Nat → Prop} {b : Nat} {v : Value} {l : List Msg} {room : Int} (h : PAt R w' (fun q => Far w0 X q ∨ w.heap.size ≤ q) b v l room) (h0 : w0.heap.size ≤ w.heap.size) (hX : ∀ q, X q → q < w.heap.size) : PAt R w' (Far w0 X) b v l room :=
  h.mono (fun q hq _ => hq.elim id (fun x => ⟨Nat.le_trans h0 x, fun e => by have := hX q e; omega⟩))
theorem PutR.far {R : Nat → Prop} {w0 w w' : World} {X : Nat → Prop} {b : Nat} {l : List Msg} {room due : Int} {n : Nat} {bs : List Int} (h : PutR R w w' (Far w0 X) b l room due n bs) (h0 : w0.heap.size ≤ w.heap.size) (hX : ∀ q, X q → q < w.heap.size) :
    ∃ v' l', PAt R w' (Far w0 X) b v' l' room ∧ ((putE l room due n ≠ 0 ∧ l' = l) ∨ (putE l room due n = 0 ∧ ∃ m, l' = put1 l (dueN l due) m ∧ m.due = due ∧ m.bs = bs)) := by
  obtain ⟨⟨v', l', h1, h2⟩, -⟩ := h
  exact ⟨v', l', h1.far h0 hX, h2⟩
theorem below_turn {B : Nat} {w0 W : World} {q : Nat} {o' : Obj} (h : Below B w0 W) (hq : B ≤ q) : Below B w0 (W.putObj q o') := h.trans ⟨rfl, rfl, rfl, by simp, fun k hk => World.putObj_heap_other (by omega)⟩
theorem blk_turn {W : World} {b : Nat} {cs : Array Value} {T : TypeId} (h : Blk W b cs T) {q : Nat} {o o' : Obj} (ho : W.heap[q]? = some o) (hc : o.isCells = false) : Blk (W.putObj q o') b cs T :=
  (keepC_turn ho hc (fun _ => False)).blk h id
end
end Go.Proofs.Ytlodiibmofeikaa
