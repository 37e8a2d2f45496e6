/- marks: what is kept by all calls; the fixed answer. -/
import Derived.Test.YtmiholjmagobhaaMarks4
import Derived.Test.YtmiholjmagobhaaMarksDue
namespace Go.Proofs.Ytmiholjmagobhaa
open Go.RowKit
set_option linter.unusedVariables false
set_option linter.unusedSimpArgs false

theorem fresh0_ok {first longest fresh : Int} (h : NewOk first longest fresh) : (Cho.fresh0 first longest fresh).Ok := by
  obtain ⟨g1, g2, g3, g4, g5, g6⟩ := h
  constructor <;> simp [Cho.fresh0] <;> omega
theorem to_ok {c : Cho} (h : c.Ok) {x y : Int} (hx : -1 ≤ x ∧ x ≤ 7) : (c.to x y).Ok := ⟨hx.1, hx.2, h.wait, h.till, h.join, h.longest, h.fresh⟩
theorem upd_same (f : Nat → Int) (n : Nat) (x : Int) : upd f n x n = x := if_pos rfl
theorem upd_other (f : Nat → Int) {n i : Nat} (x : Int) (h : i ≠ n) : upd f n x i = f i := if_neg h
theorem drop_ok {c : Cho} (h : c.Ok) {now : Int} (h0 : 0 < c.level) (hn : 0 ≤ now ∧ now ≤ 1099511627776) : (c.drop now).Ok := by
  have hl := h.hi
  have hw := h.wait c.level.toNat (by omega)
  have hlo := h.longest
  unfold Cho.drop
  simp only
  split
  · refine ⟨show -1 ≤ c.level - 1 by omega, show c.level - 1 ≤ 7 by omega, fun n hn8 => ?_, fun n hn8 => ?_, h.join, h.longest, h.fresh⟩
    · by_cases e : n = c.level.toNat
      · subst e; simp only [Cho.to, upd_same]; omega
      · simp only [Cho.to, upd_other _ _ e]; exact h.wait n hn8
    · by_cases e : n = c.level.toNat
      · subst e; simp only [Cho.to, upd_same]; omega
      · simp only [Cho.to, upd_other _ _ e]; exact h.till n hn8
  · exact to_ok h ⟨by omega, by omega⟩
theorem mark_ok {c : Cho} (h : c.Ok) (n : Int) (rates : List Int) (own now : Int) : (c.mark n rates own now).1.Ok := by
  unfold Cho.mark
  split
  · exact h
  split
  · rename_i h1 h2; exact drop_ok h (by omega) (by omega)
  split
  · rename_i h1 h2 h3
    refine ⟨show -1 ≤ n by omega, show n ≤ 7 by omega, h.wait, h.till, fun i hi => ?_, h.longest, h.fresh⟩
    by_cases e : i = n.toNat
    · subst e; simp only [Cho.to, upd_same]; omega
    · simp only [Cho.to, upd_other _ _ e]; exact h.join i hi
  · exact h
theorem drop_steps (c : Cho) (now : Int) : (c.drop now).steps = c.steps ++ [(c.level, c.level - 1, c.level)] := by
  unfold Cho.drop; simp only; split <;> rfl
theorem mark_steps (c : Cho) (n : Int) (rates : List Int) (own now : Int) : (c.mark n rates own now).1.steps.length ≤ c.steps.length + 1 := by
  unfold Cho.mark
  split
  · simp
  split
  · simp [drop_steps]
  split
  · simp [Cho.to]
  · simp

/-- what comes back of a call whose world is told by Keep: the chooser in blocks from B on -/
theorem ChoAt.from {B : Nat} {w : World} {b : Nat} {c : Cho} {n : Nat} (h : ChoAt w (fun k => B ≤ k ∨ n ≤ k) b c) (hn : B ≤ n) : ChoAt w (fun k => B ≤ k) b c :=
  h.mono (fun k hk => hk.elim id (fun h => Nat.le_trans hn h))

/-- blocks from B on, but one -/
def But (B rb : Nat) : Nat → Prop := fun k => B ≤ k ∧ k ≠ rb
theorem ChoAt.lt {F : Nat → Prop} {w : World} {b : Nat} {c : Cho} (h : ChoAt w F b c) : ChoAt w (fun k => F k ∧ k < w.heap.size) b c := by
  obtain ⟨v, h1, h2, h3, h4⟩ := h
  exact ⟨v, h1, h2, ⟨h3, h1.lt⟩, fun g hg => ⟨⟨(h4 g hg).1, (h2.lt g hg).2⟩, (h4 g hg).2⟩⟩
/-- a chooser, and rates in a block beside it -/
structure Both (w : World) (B b rb : Nat) (c : Cho) (rv : Value) (rates : List Int) : Prop where
  cho : ChoAt w (But B rb) b c
  rates : Reads w 1 rv rates.length (rates.map (Value.int .u64))
  own : rv.ownBlock = some rb
  lt : rb < w.heap.size
  le : B ≤ w.heap.size
theorem mark_both (B b rb : Nat) (c : Cho) (n own now : Int) (rv : Value) (rates : List Int) (w : World) (h : Both w B b rb c rv rates) (hl : c.steps.length ≤ 99999) (hok : c.Ok) (hrl : rates.length ≤ 1000000000000) :
    Calls Try.prog 11 #[.pointer (some ⟨b, 0, none⟩), .int .i64 n, rv, .int .u64 own, .int .i64 now] w fun e w' =>
      e = .returned (.int .i64 (c.mark n rates own now).2) ∧ Both w' B b rb (c.mark n rates own now).1 rv rates ∧ Keep (But B rb) w w' :=
  (mark_any b _ c n own now rv rates w h.cho hl hok h.rates hrl).mono fun e w' ⟨h1, h2, h3⟩ =>
    ⟨h1, ⟨h2.mono (fun k hk => hk.elim id (fun hs => ⟨Nat.le_trans h.le hs, fun e => by have := h.lt; omega⟩)),
      h.rates.keep h3 (fun g hg _ hb => by rw [h.own] at hg; cases hg; exact hb.2 rfl), h.own, Nat.lt_of_lt_of_le h.lt h3.size, Nat.le_trans h.le h3.size⟩, h3⟩
theorem Both.keep {w w' : World} {B b rb : Nat} {c : Cho} {rv : Value} {rates : List Int} (h : Both w B b rb c rv rates) (hk : Below w.heap.size w w') : Both w' B b rb c rv rates :=
  ⟨h.cho.keep (Keep.none hk) (fun _ _ => id), h.rates.below hk, h.own, Nat.lt_of_lt_of_le h.lt hk.size, Nat.le_trans h.le hk.size⟩
theorem Both.new {w : World} {B b : Nat} {c : Cho} (h : ChoAt w (fun k => B ≤ k) b c) (hB : B ≤ w.heap.size) (x y : Int) :
    Both (w.alloc (.cells #[.int .u64 x, .int .u64 y] 29)) B b w.heap.size c (.slice (some ⟨w.heap.size, 0, none⟩) 2 2) [x, y] :=
  ⟨(h.lt.keep (S := fun _ => False) ((Keep.refl _ _).alloc _) (fun _ _ => id)).mono (fun k hk => ⟨hk.1, by have := hk.2; omega⟩), Reads.new w _ _ 2 1 rfl (by omega), rfl, by simp, by simp; omega⟩

def aw1 : Cho := (Cho.fresh0 4 16 10).to 0 (-1)
def aw2 : Cho := (aw1.mark 1 [42949672960, 85899345920] 107374182400 5).1
def aw3 : Cho := (aw2.mark 1 [42949672960, 85899345920] 81604378624 9).1
def aw4 : Cho := (aw3.mark 1 [42949672960, 85899345920] 107374182400 12).1
theorem aw1_ok : aw1.Ok := to_ok (fresh0_ok (by unfold NewOk; omega)) ⟨by omega, by omega⟩
theorem aw2_ok : aw2.Ok := mark_ok aw1_ok _ _ _ _
theorem aw3_ok : aw3.Ok := mark_ok aw2_ok _ _ _ _
theorem aw4_ok : aw4.Ok := mark_ok aw3_ok _ _ _ _
theorem aw1_v : (aw1.mark 1 [42949672960, 85899345920] 107374182400 5).2 = 1 := by decide +kernel
theorem aw2_v : (aw2.mark 1 [42949672960, 85899345920] 81604378624 9).2 = -1 := by decide +kernel
theorem aw3_v : (aw3.mark 1 [42949672960, 85899345920] 107374182400 12).2 = 0 := by decide +kernel
theorem aw4_v : (aw4.mark 1 [42949672960, 85899345920] 107374182400 13).2 = 1 := by decide +kernel
theorem aw4_t : aw4.till 1 = 13 := by decide +kernel
theorem aw_len : aw1.steps.length ≤ 10 ∧ aw2.steps.length ≤ 10 ∧ aw3.steps.length ≤ 10 ∧ aw4.steps.length ≤ 10 := by decide +kernel

set_option maxRecDepth 100000 in
set_option maxHeartbeats 2000000 in
theorem awake23 (w : World) : Calls Try.prog 8 #[] w fun e w' => e = .returned (.bool true) ∧ Below w.heap.size w w' := by
  have hn := new_yes 4 16 10 w (by unfold NewOk; omega)
  go_enter Try.func8, Try.ntmps8
  go_wp2_with fail
  refine hn.mono ?_
  rintro e w1 ⟨b, rfl, h1, hb1⟩
  replace h1 : ChoAt w1 (fun k => w.heap.size ≤ k) b _ := h1.mono (fun k hk => hk.1)
  have o1 := fresh0_ok (first := 4) (longest := 16) (fresh := 10) (by unfold NewOk; omega)
  clear hn
  go_wp2_with fail
  refine (level_any b _ _ w1 h1).mono ?_
  rintro e w2 ⟨rfl, rfl⟩
  have hen := enter_any b _ _ _ h1 (by simp [Cho.fresh0])
  rw [if_pos (show (Cho.fresh0 4 16 10).level = -1 from rfl), if_pos (show (Cho.fresh0 4 16 10).level = -1 from rfl)] at hen
  rw [show (Cho.fresh0 4 16 10).level = -1 from rfl]
  go_wp2_with fail
  refine hen.mono ?_
  rintro e w3 ⟨rfl, h3, k3⟩
  have q3 := bkeep hb1 k3 (Nat.le_refl _) (fun _ h => h)
  replace h3 := h3.from hb1.size
  have hen2 := enter_any b _ _ _ h3 (by simp [Cho.fresh0, Cho.to])
  rw [if_neg (show ¬ ((Cho.fresh0 4 16 10).to 0 (-1)).level = -1 from by simp [Cho.to]), if_neg (show ¬ ((Cho.fresh0 4 16 10).to 0 (-1)).level = -1 from by simp [Cho.to])] at hen2
  have o3 : ((Cho.fresh0 4 16 10).to 0 (-1)).Ok := to_ok o1 ⟨by omega, by omega⟩
  clear hen h1 o1
  go_wp2_with fail
  refine hen2.mono ?_
  rintro e w4 ⟨rfl, h4, k4⟩
  have q4 := bkeep q3 k4 (Nat.le_refl _) (fun _ h => h)
  replace h4 := h4.from q3.size
  clear hen2 h3 k3 k4 hb1
  go_wp2_with fail
  refine (fixof 10 _ (by omega)).mono ?_
  rintro e w5 ⟨rfl, rfl⟩
  go_wp2_with fail
  refine (fixof 20 _ (by omega)).mono ?_
  rintro e w6 ⟨rfl, rfl⟩
  go_wp2_with fail
  refine (fixof 25 _ (by omega)).mono ?_
  rintro e w6 ⟨rfl, rfl⟩
  have hB := Both.new h4 q4.size 42949672960 85899345920
  have q5 := q4.alloc q4.size (.cells #[.int .u64 42949672960, .int .u64 85899345920] 29)
  rw [show (Cho.fresh0 4 16 10).to 0 (-1) = aw1 from rfl] at hB
  clear h4 q4 o3
  generalize w6.alloc (.cells #[.int .u64 42949672960, .int .u64 85899345920] 29) = w7 at *
  generalize w6.heap.size = rb at *
  obtain ⟨a1, a2, a3, a4⟩ := aw_len
  have m1 := mark_both _ b _ aw1 1 107374182400 5 _ _ _ hB (by omega) aw1_ok (by simp)
  rw [aw1_v] at m1
  go_wp2_with fail
  refine m1.mono ?_
  rintro e w8 ⟨rfl, hB2, k8⟩
  replace q5 := bkeep q5 k8 (Nat.le_refl _) (fun _ h => h.1)
  clear k8 m1
  rw [show (aw1.mark 1 [42949672960, 85899345920] 107374182400 5).1 = aw2 from rfl] at hB2
  go_wp2_with fail
  refine (fixof 19 _ (by omega)).mono ?_
  rintro e _ ⟨rfl, rfl⟩
  have m2 := mark_both _ b _ aw2 1 81604378624 9 _ _ _ hB2 (by omega) aw2_ok (by simp)
  rw [aw2_v] at m2
  go_wp2_with fail
  refine m2.mono ?_
  rintro e w8 ⟨rfl, hB3, k8⟩
  replace q5 := bkeep q5 k8 (Nat.le_refl _) (fun _ h => h.1)
  clear k8 m2
  rw [show (aw2.mark 1 [42949672960, 85899345920] 81604378624 9).1 = aw3 from rfl] at hB3
  go_wp2_with fail
  refine (fixof 25 _ (by omega)).mono ?_
  rintro e _ ⟨rfl, rfl⟩
  have m3 := mark_both _ b _ aw3 1 107374182400 12 _ _ _ hB3 (by omega) aw3_ok (by simp)
  rw [aw3_v] at m3
  go_wp2_with fail
  refine m3.mono ?_
  rintro e w8 ⟨rfl, hB4, k8⟩
  replace q5 := bkeep q5 k8 (Nat.le_refl _) (fun _ h => h.1)
  clear k8 m3
  rw [show (aw3.mark 1 [42949672960, 85899345920] 107374182400 12).1 = aw4 from rfl] at hB4
  have hun := until_any b _ aw4 1 _ hB4.cho
  rw [if_pos (by omega), show (1 : Int).toNat = 1 from rfl, aw4_t] at hun
  go_wp2_with fail
  refine hun.mono ?_
  rintro e _ ⟨rfl, rfl⟩
  go_wp2_with fail
  refine (fixof 25 _ (by omega)).mono ?_
  rintro e _ ⟨rfl, rfl⟩
  have m4 := mark_both _ b _ aw4 1 107374182400 13 _ _ _ hB4 (by omega) aw4_ok (by simp)
  rw [aw4_v] at m4
  go_wp2_with fail
  refine m4.mono ?_
  rintro e w8 ⟨rfl, hB5, k8⟩
  replace q5 := bkeep q5 k8 (Nat.le_refl _) (fun _ h => h.1)
  clear k8 m4
  have hdue := due_yes 9 3 4 w8 (by unfold DueOk; omega) (by omega)
  rw [show (dueL 9 3 4).length = 2 by decide +kernel] at hdue
  go_wp2_with fail
  refine hdue.mono ?_
  rintro e w9 ⟨A9, c9, rfl, -, hb9⟩
  go_wp2_with fail
  go_ret
  exact ⟨rfl, bmore q5 hb9 q5.size⟩
end Go.Proofs.Ytmiholjmagobhaa
