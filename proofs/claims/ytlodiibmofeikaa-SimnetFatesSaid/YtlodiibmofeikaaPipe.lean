/- pipe: a pipe in memory; New, Len, Room, Due. -/
import Derived.Test.YtlodiibmofeikaaMsgIns3
import Derived.Test.YtlodiibmofeikaaCloneByte
import Derived.BigQuiet
namespace Go.Proofs.Ytlodiibmofeikaa
open Go.RowKit
set_option linter.unusedVariables false
set_option linter.unusedSimpArgs false

def u8s (l : List Int) : List Value := l.map (Value.int .u8)
/-- a message's bytes -/
def MsgOk (w : World) (G : Nat → Prop) (m : Msg) : Prop := w.ownsRow 0 5 1 (.slice m.A m.n m.c) m.n (u8s m.bs) ∧ m.bs.length = m.n ∧ m.n ≤ 320 ∧ ∀ g, (Value.slice m.A m.n m.c).ownBlock = some g → G g
/-- a pipe, in blocks of G; G' are those of messages' bytes -/
structure PAt (R : Nat → Prop) (w : World) (G : Nat → Prop) (b : Nat) (v : Value) (l : List Msg) (room : Int) : Prop where
  str : Blk w b #[.int .i64 room, v] 98
  row : w.ownsRow 0 102 2 v l.length (l.flatMap msgCells)
  by' : ∀ m ∈ l, MsgOk w (fun q => (G q ∨ R q) ∧ q ≠ b ∧ v.ownBlock ≠ some q) m
  gb : G b
  gv : ∀ g, v.ownBlock = some g → G g
theorem MsgOk.keep {S G : Nat → Prop} {w w' : World} {m : Msg} (h : MsgOk w G m) (hk : Keep S w w') (hs : ∀ q, G q → ¬ S q) : MsgOk w' G m :=
  ⟨ownsRow_keep h.1 hk (fun g hg => hs g (h.2.2.2 g hg)), h.2⟩
theorem MsgOk.mono {G G' : Nat → Prop} {w : World} {m : Msg} (h : MsgOk w G m) (hs : ∀ q, G q → q < w.heap.size → G' q) : MsgOk w G' m := ⟨h.1, h.2.1, h.2.2.1, fun g hg => hs g (h.2.2.2 g hg) (h.1.lt g hg).2⟩
theorem PAt.keep {R : Nat → Prop} {S G : Nat → Prop} {w w' : World} {b : Nat} {v : Value} {l : List Msg} {room : Int} (h : PAt R w G b v l room) (hk : Keep S w w') (hs : ∀ q, G q ∨ R q → ¬ S q) : PAt R w' G b v l room :=
  ⟨h.str.keep hk (hs b (.inl h.gb)), ownsRow_keep h.row hk (fun g hg => hs g (.inl (h.gv g hg))), fun m hm => (h.by' m hm).keep hk (fun q hq => hs q hq.1), h.gb, h.gv⟩
theorem PAt.below {R : Nat → Prop} {G : Nat → Prop} {w w' : World} {b : Nat} {v : Value} {l : List Msg} {room : Int} (h : PAt R w G b v l room) (hb : Below w.heap.size w w') : PAt R w' G b v l room := h.keep (Keep.none hb) (fun _ _ => id)
theorem PAt.mono {R : Nat → Prop} {G G' : Nat → Prop} {w : World} {b : Nat} {v : Value} {l : List Msg} {room : Int} (h : PAt R w G b v l room) (hs : ∀ q, G q → q < w.heap.size → G' q) : PAt R w G' b v l room :=
  ⟨h.str, h.row, fun m hm => (h.by' m hm).mono (fun q hq hl => ⟨hq.1.imp (fun x => hs _ x hl) id, hq.2⟩), hs b h.gb h.str.lt, fun g hg => hs g (h.gv g hg) (h.row.lt g hg).2⟩
theorem PAt.slice {R : Nat → Prop} {G : Nat → Prop} {w : World} {b : Nat} {v : Value} {l : List Msg} {room : Int} (h : PAt R w G b v l room) : ∃ A k, v = .slice A l.length k := ownsRow_slice h.row
theorem PAt.msgs {R : Nat → Prop} {G : Nat → Prop} {w : World} {b : Nat} {v : Value} {l : List Msg} {room : Int} (h : PAt R w G b v l room) : MsgsAt w v l := Reads.of_owns h.row
theorem PAt.ne {R : Nat → Prop} {G : Nat → Prop} {w : World} {b : Nat} {v : Value} {l : List Msg} {room : Int} (h : PAt R w G b v l room) {g : Nat} (hg : v.ownBlock = some g) : g ≠ b ∧ g < w.heap.size := by
  rcases h.row.2 with ⟨rfl, _⟩ | ⟨g', cap, cur, rfl, h1, hh, _⟩
  · cases hg
  · cases hg
    refine ⟨fun e => ?_, (Array.getElem?_eq_some_iff.1 hh).1⟩
    subst e
    have := h.str
    unfold Blk at this
    rw [hh] at this
    cases this
theorem blk2 {w : World} {b : Nat} {v0 v1 : Value} {T : TypeId} (h : Blk w b #[v0, v1] T) : w.cell? ⟨b, 0, none⟩ = some v0 ∧ w.cell? ⟨b, 1, none⟩ = some v1 := ⟨h.cell 0 rfl, h.cell 1 rfl⟩
/-- how many are due -/
def dueN (l : List Msg) (now : Int) : Nat := (l.takeWhile (fun m => decide (m.due ≤ now))).length
theorem dueN_le (l : List Msg) (now : Int) : dueN l now ≤ l.length := (List.takeWhile_sublist _).length_le
theorem dueN_lt {l : List Msg} {now : Int} {k : Nat} {m : Msg} (hk : k < dueN l now) (hm : l[k]? = some m) : m.due ≤ now := by
  induction l generalizing k with
  | nil => cases hm
  | cons a t ih =>
    unfold dueN at hk
    by_cases ha : a.due ≤ now
    · rw [List.takeWhile_cons_of_pos (by simpa using ha)] at hk
      cases k with
      | zero => cases hm; exact ha
      | succ k => exact ih (by unfold dueN; simpa using hk) (by simpa using hm)
    · rw [List.takeWhile_cons_of_neg (by simpa using ha)] at hk
      simp at hk
theorem dueN_at {l : List Msg} {now : Int} {m : Msg} (hm : l[dueN l now]? = some m) : now < m.due := by
  induction l with
  | nil => cases hm
  | cons a t ih =>
    unfold dueN at hm
    by_cases ha : a.due ≤ now
    · rw [List.takeWhile_cons_of_pos (by simpa using ha)] at hm
      exact ih (by unfold dueN; simpa using hm)
    · rw [List.takeWhile_cons_of_neg (by simpa using ha)] at hm
      cases hm
      omega
theorem dueN_eq {l : List Msg} {now : Int} {k : Nat} {m : Msg} (hm : l[k]? = some m) (h1 : now < m.due) (h2 : k ≤ dueN l now) : k = dueN l now := by
  rcases Nat.lt_or_ge k (dueN l now) with h | h
  · have := dueN_lt h hm; omega
  · omega
set_option maxRecDepth 100000 in
theorem duec_any (o : Msg) (pb : Nat) (now : Int) (w : World) (h : Blk w pb #[.int .i64 now] 3) : Calls Try.prog 67 #[.agg #[.int .i64 o.due, .slice o.A o.n o.c], .pointer (some ⟨pb, 0, none⟩)] w fun e w' => e = .returned (.bool (decide (now < o.due))) ∧ Below w.heap.size w w' := by
  have hb : Below w.heap.size w (w.alloc (.cells #[.int .i64 o.due, .slice o.A o.n o.c] 102)) := (Below.refl _ w).alloc (Nat.le_refl _) _
  have c0 := (h.below hb).cell 0 rfl
  have hl := h.lt
  have hn : ¬ pb = w.heap.size := by omega
  have hn' : ¬ w.heap.size = pb := by omega
  go_enter Try.func67, Try.ntmps67
  go_wp2
  go_ret
  exact ⟨rfl, hb⟩
set_option maxRecDepth 100000 in
set_option maxHeartbeats 400000 in
theorem idx_any (v : Value) (l : List Msg) (pb : Nat) (now : Int) (w : World) (h : MsgsAt w v l) (hp : Blk w pb #[.int .i64 now] 3) (hn : l.length ≤ 1000000) :
    Calls Try.prog 66 #[v, .func (.func 67) #[] #[.pointer (some ⟨pb, 0, none⟩)]] w fun e w' => e = .returned (.int .i64 (if dueN l now < l.length then (dueN l now : Int) else -1)) ∧ Below w.heap.size w w' := by
  obtain ⟨A, c, rfl, -⟩ := h.val
  obtain ⟨r, hr⟩ : ∃ r : Int, r = if dueN l now < l.length then (dueN l now : Int) else -1 := ⟨_, rfl⟩
  rw [← hr]
  have HR := Lib.hid hr
  have H := Lib.hid h
  have HP := Lib.hid hp
  clear h hp hr
  go_enter Try.func66, Try.ntmps66
  go_wp2
  go_loopw [8] (fun i wr => ∃ k : Nat, i = .int .i64 k ∧ k ≤ l.length ∧ Hid (k ≤ dueN l now) ∧ Hid (Below w.heap.size w wr)) (fun i _ => l.length - (intOf i).toNat)
  case atStart => exact ⟨0, rfl, by omega, Nat.zero_le _, Below.refl _ _⟩
  case round =>
    obtain ⟨k, rfl, hk, HD, HB⟩ := hrel
    by_cases hlt : k < l.length
    · obtain ⟨o, ho⟩ : ∃ o, l[k]? = some o := ⟨_, List.getElem?_eq_getElem hlt⟩
      obtain ⟨g, p, c', he, o0, o1⟩ := MsgsAt.at (Reads.below H.out HB.out) ho
      cases he
      have HO := Lib.hid ho
      have i1 : (0 : Int) ≤ (k : Int) := by omega
      have i2 : (k : Int) < (l.length : Int) := by omega
      have HPR := Lib.hid (HP.out.below HB.out)
      clear ho
      go_wp2_with fail
      refine (duec_any o pb now _ HPR.out).mono ?_
      rintro e w1 ⟨rfl, hb1⟩
      have HB1 := Lib.hid (bmore HB.out hb1 HB.out.size)
      clear hb1 o0 o1
      by_cases hc : now < o.due
      · have e1 := dueN_eq HO.out hc HD.out
        obtain rfl : r = (k : Int) := by rw [HR.out, if_pos (by omega), ← e1]
        have t1 : decide (now < o.due) = true := decide_eq_true hc
        clear e1
        go_wp2
        go_ret
        exact ⟨rfl, HB1.out⟩
      · have t1 : decide (now < o.due) = false := decide_eq_false hc
        have HD2 : Hid (k + 1 ≤ dueN l now) := by
          show _ ≤ _
          rcases Nat.lt_or_ge k (dueN l now) with h | h
          · omega
          · have e1 : k = dueN l now := Nat.le_antisymm HD.out h
            exact absurd (dueN_at (by rw [← e1]; exact HO.out)) hc
        go_wp2
        go_roundw
        case rel => exact ⟨k + 1, by go_num, by omega, HD2, HB1⟩
        case measure => simp [intOf]; omega
    · obtain rfl : k = l.length := by omega
      obtain rfl : r = -1 := by rw [HR.out, if_neg (by have := HD.out; omega)]
      go_wp2
      go_ret
      exact ⟨rfl, HB.out⟩
set_option maxRecDepth 100000 in
theorem due_any {R : Nat → Prop} {G : Nat → Prop} (b : Nat) (v : Value) (l : List Msg) (room now : Int) (w : World) (h : PAt R w G b v l room) (hn : l.length ≤ 1000000) :
    Calls Try.prog 63 #[.pointer (some ⟨b, 0, none⟩), .int .i64 now] w fun e w' => e = .returned (.int .i64 (dueN l now)) ∧ Below w.heap.size w w' := by
  obtain ⟨A, k, rfl⟩ := h.slice
  have hb : Below w.heap.size w (w.alloc (.cells #[.int .i64 now] 3)) := (Below.refl _ w).alloc (Nat.le_refl _) _
  have HB := Lib.hid hb
  have HN := Lib.hid (Blk.new w #[.int .i64 now] 3)
  have HP := Lib.hid (h.below hb)
  obtain ⟨c0, c1⟩ := blk2 HP.out.str
  have HI := Lib.hid (idx_any (.slice A l.length k) l w.heap.size now _ HP.out.msgs HN.out hn)
  have hdl := dueN_le l now
  obtain ⟨d, hd⟩ : ∃ d, d = dueN l now := ⟨_, rfl⟩
  rw [← hd] at hdl HI ⊢
  clear h hb hd
  go_enter Try.func63, Try.ntmps63
  go_wp2_with fail
  refine HI.out.mono ?_
  rintro e w1 ⟨rfl, hb1⟩
  have HB1 := Lib.hid (bmore HB.out hb1 HB.out.size)
  have HP1 := Lib.hid (HP.out.below hb1)
  clear hb1 c0 c1
  obtain ⟨c0, c1⟩ := blk2 HP1.out.str
  by_cases hc : d < l.length
  · have hi : (if d < l.length then (d : Int) else -1) = d := if_pos hc
    rw [hi]
    have t1 : ¬ (d : Int) < 0 := by omega
    go_wp2
    go_ret
    exact ⟨rfl, HB1.out⟩
  · have hi : (if d < l.length then (d : Int) else -1) = -1 := if_neg hc
    rw [hi]
    obtain rfl : d = l.length := by omega
    clear hi hc
    go_wp2
    go_ret
    exact ⟨rfl, HB1.out⟩
set_option maxRecDepth 100000 in
theorem len_any {R : Nat → Prop} {G : Nat → Prop} (b : Nat) (v : Value) (l : List Msg) (room : Int) (w : World) (h : PAt R w G b v l room) :
    Calls Try.prog 33 #[.pointer (some ⟨b, 0, none⟩)] w fun e w' => e = .returned (.int .i64 l.length) ∧ w = w' := by
  obtain ⟨A, k, rfl⟩ := h.slice
  obtain ⟨c0, c1⟩ := blk2 h.str
  clear h
  go_enter Try.func33, Try.ntmps33
  go_wp2
  go_ret
  exact ⟨rfl, rfl⟩
set_option maxRecDepth 100000 in
theorem room_any {R : Nat → Prop} {G : Nat → Prop} (b : Nat) (v : Value) (l : List Msg) (room : Int) (w : World) (h : PAt R w G b v l room) (hn : l.length ≤ 1000000) (hr : 0 ≤ room ∧ room ≤ 1000) :
    Calls Try.prog 61 #[.pointer (some ⟨b, 0, none⟩)] w fun e w' => e = .returned (.int .i64 (room - l.length)) ∧ Below w.heap.size w w' := by
  obtain ⟨A, k, rfl⟩ := h.slice
  obtain ⟨c0, c1⟩ := blk2 h.str
  have wr : IntKind.i64.wrap (room - (l.length : Int)) = room - (l.length : Int) := IntWalk.i64_in _ (by omega)
  clear h
  go_enter Try.func61, Try.ntmps61
  go_wp2_with fail
  go_quiet (fail)
  go_wp2
  go_ret
  exact ⟨rfl, below_drewN (Below.refl _ w) nq⟩
theorem new_ok {R : Nat → Prop} (room : Int) (w : World) (h1 : 1 ≤ room) (h2 : room ≤ 256) :
    Calls Try.prog 24 #[.int .i64 room] w fun e w' => ∃ b, e = .returned (.tuple #[.pointer (some ⟨b, 0, none⟩), .int .i64 0]) ∧ PAt R w' (fun q => w.heap.size ≤ q) b (.slice none 0 0) [] room ∧ Below w.heap.size w w' := by
  go_enter Try.func24, Try.ntmps24
  go_wp2
  go_ret2
  exact ⟨w.heap.size, rfl, ⟨Blk.new w _ _, World.ownsRow_nil _ _ _ _, fun m hm => (by cases hm), Nat.le_refl _, fun g hg => (by cases hg)⟩, (Below.refl _ w).alloc (Nat.le_refl _) _⟩
theorem pnew_no (room : Int) (w : World) (h : room < 1 ∨ 256 < room) :
    Calls Try.prog 24 #[.int .i64 room] w fun e w' => e = .returned (.tuple #[.pointer none, .int .i64 11]) ∧ w = w' := by
  rcases (by omega : room < 1 ∨ (1 ≤ room ∧ 256 < room)) with g | ⟨g, g'⟩
  all_goals
    go_enter Try.func24, Try.ntmps24
    go_wp2
    go_ret2
    exact ⟨rfl, rfl⟩
end Go.Proofs.Ytlodiibmofeikaa
