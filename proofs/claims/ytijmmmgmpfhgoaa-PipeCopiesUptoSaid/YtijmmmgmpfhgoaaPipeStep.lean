/- pipe: the law's step. -/
import Derived.Test.YtijmmmgmpfhgoaaPipeLTake
import Derived.Test.YtijmmmgmpfhgoaaHeldChain
namespace Go.Proofs.Ytijmmmgmpfhgoaa
open Go.RowKit Go.Shelf
set_option linter.unusedVariables false
set_option linter.unusedSimpArgs false

/-- what step leaves -/
structure StP (R : Nat → Prop) (w w' : World) (G : Nat → Prop) (b : Nat) (room : Int) (xv' : Value) (X' : List RM) : Prop where
  ex : ∃ G' v' l', PAt R w' G' b v' l' room ∧ (∀ q, G' q → (G q ∨ w.heap.size ≤ q) ∧ q < w'.heap.size) ∧ (∀ g, xv'.ownBlock = some g → ¬ G' g) ∧ l'.map toR = sorted X' ∧ (l'.length : Int) ≤ room
  row : ROwn w' xv' X'
  kp : Keep G w w'
/-- what step is called with -/
structure SIn (R : Nat → Prop) (w : World) (G : Nat → Prop) (b : Nat) (v : Value) (l : List Msg) (room : Int) (xv : Value) (X : List RM) : Prop where
  at_ : PAt R w G b v l room
  lt : ∀ q, G q → q < w.heap.size
  row : ROwn w xv X
  apart : ∀ g, xv.ownBlock = some g → ¬ G g
  rel : l.map toR = sorted X
  len : (l.length : Int) ≤ room
  room : 0 ≤ room ∧ room ≤ 256
  rlt : ∀ q, R q → q < w.heap.size
theorem SIn.below {R : Nat → Prop} {w w' : World} {G : Nat → Prop} {b : Nat} {v : Value} {l : List Msg} {room : Int} {xv : Value} {X : List RM} (h : SIn R w G b v l room xv X) (hb : Below w.heap.size w w') : SIn R w' G b v l room xv X :=
  ⟨h.at_.below hb, fun q hq => Nat.lt_of_lt_of_le (h.lt q hq) hb.size, ownsRow_keep h.row (Keep.none hb) (fun _ _ => id), h.apart, h.rel, h.len, h.room, fun q hq => Nat.lt_of_lt_of_le (h.rlt q hq) hb.size⟩
theorem SIn.xlen {R : Nat → Prop} {w : World} {G : Nat → Prop} {b : Nat} {v : Value} {l : List Msg} {room : Int} {xv : Value} {X : List RM} (h : SIn R w G b v l room xv X) : X.length = l.length := by
  rw [← sorted_len, ← h.rel, List.length_map]
theorem SIn.stay {R : Nat → Prop} {w w' : World} {G : Nat → Prop} {b : Nat} {v : Value} {l : List Msg} {room : Int} {xv : Value} {X : List RM} (h : SIn R w G b v l room xv X) (hb : Below w.heap.size w w') : StP R w w' G b room xv X :=
  ⟨⟨G, v, l, h.at_.below hb, fun q hq => ⟨.inl hq, Nat.lt_of_lt_of_le (h.lt q hq) hb.size⟩, h.apart, h.rel, h.len⟩, (h.below hb).row, Keep.ofBelowAll hb⟩
theorem blk4' {w : World} {b : Nat} {v0 v1 v2 v3 : Value} {T : TypeId} (h : Blk w b #[v0, v1, v2, v3] T) : w.cell? ⟨b, 0, none⟩ = some v0 ∧ w.cell? ⟨b, 1, none⟩ = some v1 ∧ w.cell? ⟨b, 2, none⟩ = some v2 ∧ w.cell? ⟨b, 3, none⟩ = some v3 :=
  ⟨h.cell 0 rfl, h.cell 1 rfl, h.cell 2 rfl, h.cell 3 rfl⟩
set_option maxRecDepth 100000 in
theorem step_0 {R : Nat → Prop} {G : Nat → Prop} (b : Nat) (v : Value) (l : List Msg) (room kd at' N : Int) (xv : Value) (X : List RM) (tA : Option Addr) (tn tc : Nat) (w : World) (h : SIn R w G b v l room xv X) (h1 : (kd == 1) = false) (h2 : (kd == 2) = false) (h3 : (kd == 3) = false) :
    Calls Try.prog 13 #[.pointer (some ⟨b, 0, none⟩), xv, .int .i64 room, .agg #[.int .i64 kd, .int .i64 at', .int .i64 N, .slice tA tn tc]] w fun e w' => ∃ xv' X', e = .returned (.tuple #[xv', .bool true]) ∧ StP R w w' G b room xv' X' := by
  have hb0 : Below w.heap.size w (w.alloc (.cells #[.int .i64 kd, .int .i64 at', .int .i64 N, .slice tA tn tc] 35)) := (Below.refl _ w).alloc (Nat.le_refl _) _
  have HF := Lib.hid (h.stay hb0)
  clear h hb0
  go_enter Try.func13, Try.ntmps13
  go_wp2
  exact bodyPost_ret (v := .tuple #[xv, .bool true]) (by simp [results, Try.results13, go_sem]) rfl ⟨xv, X, rfl, HF.out⟩
set_option maxRecDepth 100000 in
theorem step_3 {R : Nat → Prop} {G : Nat → Prop} (b : Nat) (v : Value) (l : List Msg) (room at' N : Int) (xv : Value) (X : List RM) (tA : Option Addr) (tn tc : Nat) (w : World) (h : SIn R w G b v l room xv X) :
    Calls Try.prog 13 #[.pointer (some ⟨b, 0, none⟩), xv, .int .i64 room, .agg #[.int .i64 3, .int .i64 at', .int .i64 N, .slice tA tn tc]] w fun e w' => ∃ xv' X', e = .returned (.tuple #[xv', .bool true]) ∧ StP R w w' G b room xv' X' := by
  have hb0 : Below w.heap.size w (w.alloc (.cells #[.int .i64 3, .int .i64 at', .int .i64 N, .slice tA tn tc] 35)) := (Below.refl _ w).alloc (Nat.le_refl _) _
  have HB0 := Lib.hid hb0
  have H0 := Lib.hid (h.below hb0)
  have hxl := h.xlen
  obtain ⟨xA, xk, rfl⟩ := ownsRow_slice h.row
  have hlr := h.len
  have hrr := h.room
  have HLT := Lib.hid h.lt
  have hcl := clear_any b v l room _ H0.out.at_ (by omega)
  rw [← hxl] at hcl
  have HCL := Lib.hid hcl
  have HR := Lib.hid hrr.1
  clear h hb0 hxl hcl hlr hrr
  go_enter Try.func13, Try.ntmps13
  go_wp2_with fail
  refine HCL.out.mono ?_
  rintro e w2 ⟨rfl, ⟨v2, hp2⟩, hk2⟩
  have HP2 := Lib.hid hp2
  have HK2 := Lib.hid hk2
  clear hp2 hk2
  go_wp2
  refine bodyPost_ret (v := .tuple #[.slice none 0 0, .bool true]) (by simp [results, Try.results13, go_sem]) rfl ⟨.slice none 0 0, [], rfl, ⟨G, v2, [], HP2.out, fun q hq => ⟨.inl hq, by have h1 := HLT.out q hq; have h2 := HB0.out.size; have h3 := HK2.out.size; omega⟩, fun g hg => (by cases hg), rfl, by have := HR.out; simpa using this⟩, World.ownsRow_nil _ _ _ _, (Keep.ofBelowAll HB0.out).trans HK2.out (fun _ _ h => h)⟩
set_option maxRecDepth 100000 in
theorem step_2 {R : Nat → Prop} {G : Nat → Prop} (b : Nat) (v : Value) (l : List Msg) (room at' N : Int) (xv : Value) (X : List RM) (tA : Option Addr) (tn tc : Nat) (w : World) (h : SIn R w G b v l room xv X) :
    Calls Try.prog 13 #[.pointer (some ⟨b, 0, none⟩), xv, .int .i64 room, .agg #[.int .i64 2, .int .i64 at', .int .i64 N, .slice tA tn tc]] w fun e w' => ∃ xv' X', e = .returned (.tuple #[xv', .bool true]) ∧ StP R w w' G b room xv' X' := by
  have hb0 : Below w.heap.size w (w.alloc (.cells #[.int .i64 2, .int .i64 at', .int .i64 N, .slice tA tn tc] 35)) := (Below.refl _ w).alloc (Nat.le_refl _) _
  have HB0 := Lib.hid hb0
  have H0 := Lib.hid (h.below hb0)
  have hlr := h.len
  have hrr := h.room
  have HLT := Lib.hid h.lt
  have HLR : Hid ((l.length : Int) ≤ room) := hlr
  have HT := Lib.hid (ltake_any b v l room 2 at' N xv X tA tn tc _ H0.out.at_ (fun q hq => hq.elim (H0.out.lt q) (H0.out.rlt q)) (by omega) H0.out.row H0.out.apart H0.out.rel)
  clear h hb0 hlr hrr
  go_enter Try.func13, Try.ntmps13
  go_wp2_with fail
  refine HT.out.mono ?_
  rintro e w2 ⟨xv', X', rfl, hlt⟩
  have HLT2 := Lib.hid hlt
  clear hlt
  go_wp2
  refine bodyPost_ret (v := .tuple #[xv', .bool true]) (by simp [results, Try.results13, go_sem]) rfl ⟨xv', X', rfl, ?_⟩
  obtain ⟨⟨k, v', h1, h2, h3, h4⟩, h5, h6, h7⟩ := HLT2.out
  exact ⟨⟨G, v', l.drop k, h1, fun q hq => ⟨.inl hq, by have h1 := HLT.out q hq; have h2 := HB0.out.size; have h3 := h7.size; omega⟩, h6, h2, by have := HLR.out; rw [List.length_drop]; omega⟩, h5, (Keep.ofBelowAll HB0.out).trans h7 (fun _ _ h => h)⟩
/-- where Put refuses -/
theorem step_1n {R : Nat → Prop} {G : Nat → Prop} (b : Nat) (v : Value) (l : List Msg) (room at' N : Int) (xv : Value) (X : List RM) (tA : Option Addr) (tn tc : Nat) (bs : List Int) (w : World) (h : SIn R w G b v l room xv X) (hx : Reads w 1 (.slice tA tn tc) tn (u8s bs)) (hbs : bs.length = tn) (htn : tn ≤ 1048576) (hne : putE l room at' tn ≠ 0) :
    Calls Try.prog 13 #[.pointer (some ⟨b, 0, none⟩), xv, .int .i64 room, .agg #[.int .i64 1, .int .i64 at', .int .i64 N, .slice tA tn tc]] w fun e w' => ∃ xv' X', e = .returned (.tuple #[xv', .bool true]) ∧ StP R w w' G b room xv' X' := by
  have hb0 : Below w.heap.size w (w.alloc (.cells #[.int .i64 1, .int .i64 at', .int .i64 N, .slice tA tn tc] 35)) := (Below.refl _ w).alloc (Nat.le_refl _) _
  have HB0 := Lib.hid hb0
  have H := Lib.hid h
  have H0 := Lib.hid (h.below hb0)
  have hxl := h.xlen
  obtain ⟨xA, xk, rfl⟩ := ownsRow_slice h.row
  have hlr := h.len
  have hrr := h.room
  have HBX := Lib.hid (Blk.new w #[.int .i64 1, .int .i64 at', .int .i64 N, .slice tA tn tc] 35)
  have HPU := Lib.hid (put_any b v l room at' tA tn tc bs _ H0.out.at_ (by omega) (by omega) (hx.below hb0) hbs)
  have hcs : (putE l room at' tn = 11 ∧ (at' < 0 ∨ 2199023255552 < at' ∨ 320 < tn)) ∨ (putE l room at' tn = 15 ∧ ¬ at' < 0 ∧ ¬ 2199023255552 < at' ∧ ¬ 320 < tn ∧ room ≤ l.length) := by
    by_cases g1 : at' < 0 ∨ 2199023255552 < at' ∨ 320 < tn
    · exact .inl ⟨if_pos g1, g1⟩
    · by_cases g2 : room ≤ l.length
      · exact .inr ⟨by unfold putE; rw [if_neg g1, if_pos g2], by omega, by omega, by omega, g2⟩
      · exact absurd (by unfold putE; rw [if_neg g1, if_neg g2]) hne
  have HNE := Lib.hid hne
  have hxr : ((X.length : Int)) = (l.length : Int) := by omega
  have HXR := Lib.hid hxr
  clear h hb0 hxl hx hbs hlr hne hxr
  have fin : ∀ w', PutR R (w.alloc (.cells #[.int .i64 1, .int .i64 at', .int .i64 N, .slice tA tn tc] 35)) w' G b l room at' tn bs → StP R w w' G b room (.slice xA X.length xk) X := fun w' r => by
    obtain ⟨⟨v', l', h1, h2⟩, hk⟩ := r
    have hk2 : Keep G w w' := (Keep.ofBelowAll HB0.out).trans hk (fun _ _ h => h)
    rcases h2 with ⟨-, rfl⟩ | ⟨h2, -⟩
    · refine ⟨⟨fun q => (G q ∨ w.heap.size ≤ q) ∧ q < w'.heap.size, v', l', h1.mono (fun q hq hl => ⟨hq.imp id (fun x => Nat.le_trans HB0.out.size x), hl⟩), fun q hq => hq, fun g hg hq => ?_, H.out.rel, H.out.len⟩, ownsRow_keep H.out.row hk2 (fun g hg e => H.out.apart g hg e), hk2⟩
      have h5 := (H.out.row.lt g hg).2
      rcases hq.1 with x | x
      · exact H.out.apart g hg x
      · omega
    · exact absurd h2 HNE.out
  have HFIN := Lib.hid fin
  clear fin
  rcases hcs with ⟨he, g1⟩ | ⟨he, g1, g2, g3, g4⟩
  · rw [he] at HPU
    rcases (by omega : at' < 0 ∨ (¬ at' < 0 ∧ 2199023255552 < at') ∨ (¬ at' < 0 ∧ ¬ 2199023255552 < at' ∧ 320 < tn)) with g | ⟨g, g'⟩ | ⟨g, g', g''⟩
    all_goals
      clear g1 he
      obtain ⟨y0, y1, y2, y3⟩ := blk4' HBX.out
      go_enter Try.func13, Try.ntmps13
      go_wp2_with fail
      refine HPU.out.mono ?_
      rintro e w2 ⟨rfl, r2⟩
      have HR2 := Lib.hid r2
      clear r2
      go_wp2
      exact bodyPost_ret (v := .tuple #[.slice xA X.length xk, .bool true]) (by simp [results, Try.results13, go_sem]) rfl ⟨.slice xA X.length xk, X, rfl, HFIN.out _ HR2.out⟩
  · rw [he] at HPU
    have g5 : room ≤ (X.length : Int) := by rw [HXR.out]; exact g4
    clear he g4
    obtain ⟨y0, y1, y2, y3⟩ := blk4' HBX.out
    go_enter Try.func13, Try.ntmps13
    go_wp2_with fail
    refine HPU.out.mono ?_
    rintro e w2 ⟨rfl, r2⟩
    have HR2 := Lib.hid r2
    clear r2
    go_wp2
    exact bodyPost_ret (v := .tuple #[.slice xA X.length xk, .bool true]) (by simp [results, Try.results13, go_sem]) rfl ⟨.slice xA X.length xk, X, rfl, HFIN.out _ HR2.out⟩
end Go.Proofs.Ytijmmmgmpfhgoaa
