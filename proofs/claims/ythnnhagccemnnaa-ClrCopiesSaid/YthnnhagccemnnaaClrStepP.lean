/- clr: what a call makes of the reference's state, and of the book. -/
import Derived.Test.YthnnhagccemnnaaClrRef2
import Derived.Test.YthnnhagccemnnaaClrRef3
import Derived.Test.YthnnhagccemnnaaClr7
import Derived.Test.YthnnhagccemnnaaClr11
import Derived.Test.YthnnhagccemnnaaClrSame
namespace Go.Proofs.Ythnnhagccemnnaa
open Go.RowKit
set_option linter.unusedVariables false
set_option linter.unusedSimpArgs false

structure SOk (s : CSt) : Prop where
  clr : ClrOk s
  tick : ∀ n : Nat, n < 64 → 0 ≤ tkO (s.at' n) ∧ tkO (s.at' n) ≤ 1099511627776
def takeS (s : CSt) (lim : Int) (t : Told) (now : Int) : CSt :=
  if mayE (told s 64) lim t now = 0 then ⟨updO s.at' t.frm.toNat (some (t.tick, t.rate)), tkC (told s 64) s.clr t⟩ else s
def leaveB (s : CSt) (r : Int) : Bool := decide (0 ≤ r) && decide (r < 64) && (s.at' r.toNat).isSome
def leaveS (s : CSt) (r : Int) : CSt := if leaveB s r = true then ⟨updO s.at' r.toNat none, if s.clr = r then -1 else s.clr⟩ else s
def passB (s : CSt) (lim now : Int) : Bool := decide (0 ≤ s.clr) && decide (lim < now - tkO (s.at' s.clr.toNat))
def passS (s : CSt) (lim now : Int) : CSt := if passB s lim now = true then leaveS s s.clr else s
theorem lk_in (s : CSt) {r : Int} (h0 : 0 ≤ r) (h1 : r < 64) : lk (told s 64) r = ofN s r.toNat := by
  obtain ⟨n, rfl⟩ : ∃ n : Nat, r = n := ⟨r.toNat, by omega⟩
  rw [Int.toNat_natCast]
  exact told_lk s 64 n (by omega)
theorem ofN_some (s : CSt) (n : Nat) : (ofN s n).isSome = (s.at' n).isSome := by unfold ofN; simp
theorem ofN_got (s : CSt) (n : Nat) : (gotV (ofN s n)).tick = tkO (s.at' n) ∧ (gotV (ofN s n)).rate = rtO (s.at' n) := by
  unfold ofN tkO rtO gotV
  cases s.at' n <;> exact ⟨rfl, rfl⟩
theorem tkC_in {s : CSt} (h : ClrOk s) (n : Nat) (tk rt : Int) : tkC (told s 64) s.clr ⟨n, tk, rt⟩ = takC s n rt := by
  unfold tkC takC
  rcases h with e | ⟨q, hq, e, hs⟩
  · rw [e, told_out s 64 (-1) (by omega)]
    rw [if_pos (.inl rfl), if_pos (.inl (by omega))]
  · rw [e, told_lk s 64 q hq, ofN_some, hs, (ofN_got s q).2, Int.toNat_natCast]
    by_cases hr : rt < rtO (s.at' q)
    · rw [if_pos (.inr hr), if_pos (.inr hr)]
    · rw [if_neg (by rintro (x | x); · cases x
                     · exact hr x), if_neg (by rintro (x | x); · omega
                                               · exact hr x)]
theorem timeB_f {n : Int} : timeB n = false ↔ ¬ (0 ≤ n ∧ n ≤ 1099511627776) := by
  cases h : timeB n with
  | true => simp [timeB_iff.1 h]
  | false => simp only [true_iff]; intro hh; rw [timeB_iff.2 hh] at h; cases h
theorem reftake_any (s : CSt) (lim now : Int) (t : Told) (w : World) (h : SOk s) :
    Calls Try.prog 22 #[.agg (stC s), .int .i64 lim, .int .i64 t.frm, .int .i64 t.tick, .int .u64 t.rate, .int .i64 now] w fun e w' => e = .returned (.tuple #[.agg (stC (takeS s lim t now)), .int .i64 (mayE (told s 64) lim t now)]) ∧ Below w.heap.size w w' := by
  by_cases h1 : t.frm < 0 ∨ 64 ≤ t.frm ∨ timeB t.tick = false ∨ timeB now = false
  · have hm : mayE (told s 64) lim t now = 11 := if_pos h1
    have hs : takeS s lim t now = s := if_neg (by rw [hm]; decide)
    rw [hm, hs]
    exact reftake_range s lim now t w (by rw [timeB_f, timeB_f] at h1; exact h1)
  · have hm : mayE (told s 64) lim t now = if lim < now - t.tick ∨ now < t.tick ∨ ((lk (told s 64) t.frm).isSome = true ∧ t.tick < (gotV (lk (told s 64) t.frm)).tick) then 23 else 0 := if_neg h1
    rw [timeB_f, timeB_f] at h1
    obtain ⟨fr, tk, rt⟩ := t
    simp only at h1 hm ⊢
    obtain ⟨m, rfl⟩ : ∃ m : Nat, fr = m := ⟨fr.toNat, by omega⟩
    rw [told_lk s 64 m (by omega), ofN_some, (ofN_got s m).1] at hm
    by_cases h2 : lim < now - tk ∨ now < tk ∨ ((s.at' m).isSome = true ∧ tk < tkO (s.at' m))
    · rw [if_pos h2] at hm
      have hs : takeS s lim ⟨m, tk, rt⟩ now = s := if_neg (by rw [hm]; decide)
      rw [hm, hs]
      exact reftake_stale s lim now m tk rt w (by omega) (by omega) (by omega) (by omega) (by omega) h2
    · rw [if_neg h2] at hm
      have hs : takeS s lim ⟨m, tk, rt⟩ now = ⟨updO s.at' m (some (tk, rt)), takC s m rt⟩ := by
        unfold takeS
        rw [if_pos hm, tkC_in h.clr]
        rfl
      rw [hm, hs]
      have hc : s.clr < 64 := by rcases h.clr with e | ⟨q, hq, e, -⟩ <;> omega
      refine reftake_yes s lim now m tk rt w (by omega) (by omega) (by omega) (by omega) (by omega) (by omega) (by omega) ?_ hc
      cases hb : (s.at' m).isSome with
      | false => exact .inl rfl
      | true => exact .inr (fun x => h2 (.inr (.inr ⟨hb, x⟩)))
theorem refleave_any (s : CSt) (r : Int) (w : World) :
    Calls Try.prog 23 #[.agg (stC s), .int .i64 r] w fun e w' => e = .returned (.tuple #[.agg (stC (leaveS s r)), .bool (leaveB s r && decide (s.clr = r))]) ∧ Below w.heap.size w w' := by
  by_cases h : r < 0 ∨ 63 < r ∨ (s.at' r.toNat).isSome = false
  · have hb : leaveB s r = false := by
      unfold leaveB
      rcases h with h | h | h
      · rw [decide_eq_false (by omega : ¬ 0 ≤ r)]; rfl
      · rw [decide_eq_false (by omega : ¬ r < 64)]; simp
      · rw [h]; simp
    have hs : leaveS s r = s := if_neg (by rw [hb]; decide)
    rw [hs, hb]
    exact refleave_no s r w h
  · obtain ⟨m, rfl⟩ : ∃ m : Nat, r = m := ⟨r.toNat, by omega⟩
    have hsm : (s.at' m).isSome = true := by
      cases hb : (s.at' m).isSome with
      | true => rfl
      | false => exact absurd (.inr (.inr (by rw [Int.toNat_natCast]; exact hb))) h
    have hb : leaveB s m = true := by
      unfold leaveB
      rw [decide_eq_true (by omega : (0 : Int) ≤ m), decide_eq_true (by omega : (m : Int) < 64), Int.toNat_natCast, hsm]
      rfl
    have hs : leaveS s m = ⟨updO s.at' m none, if s.clr = m then -1 else s.clr⟩ := if_pos hb
    rw [hs, hb]
    by_cases hc : s.clr = m
    · rw [if_pos hc, decide_eq_true hc]
      exact refleave_clr s m w (by omega) hsm hc
    · rw [if_neg hc, decide_eq_false hc]
      exact refleave_other s m w (by omega) hsm hc
/-- what a call leaves of the book -/
structure Chg (w w' : World) (b : Nat) (v : Value) (lim : Int) (s' : CSt) : Prop where
  ex : ∃ v', BkAt w' b v' (told s' 64) lim s'.clr ∧ (∀ g, v'.ownBlock = some g → v.ownBlock = some g ∨ w.heap.size ≤ g)
  kp : Keep (fun k => k = b ∨ v.ownBlock = some k) w w'
theorem Chg.below {w w' : World} {b : Nat} {v : Value} {lim : Int} {s : CSt} (h : BkAt w b v (told s 64) lim s.clr) (hb : Below w.heap.size w w') : Chg w w' b v lim s :=
  ⟨⟨v, h.below hb, fun g hg => .inl hg⟩, Keep.ofBelowAll hb⟩
theorem btake_any (b : Nat) (v : Value) (s : CSt) (lim now : Int) (t : Told) (w : World) (h : BkAt w b v (told s 64) lim s.clr) :
    Calls Try.prog 11 #[.pointer (some ⟨b, 0, none⟩), .agg #[.int .i64 t.frm, .int .i64 t.tick, .int .u64 t.rate], .int .i64 now] w fun e w' => e = .returned (.int .i64 (mayE (told s 64) lim t now)) ∧ Chg w w' b v lim (takeS s lim t now) := by
  have hl := told_len s 64
  by_cases hm : mayE (told s 64) lim t now = 0
  · have hs : takeS s lim t now = ⟨updO s.at' t.frm.toNat (some (t.tick, t.rate)), tkC (told s 64) s.clr t⟩ := if_pos hm
    rw [hs, hm]
    refine (take_ok b v (told s 64) lim s.clr now t w h (by omega) hm).mono ?_
    rintro e w' ⟨rfl, hk⟩
    refine ⟨rfl, ?_, hk.kp⟩
    obtain ⟨v', l', h1, h2, h3, h4⟩ := hk.ex
    have hr : 0 ≤ t.frm ∧ t.frm < 64 := by
      unfold mayE at hm
      split at hm
      · cases hm
      · omega
    obtain ⟨fr, tk, rt⟩ := t
    obtain ⟨m, rfl⟩ : ∃ m : Nat, fr = m := ⟨fr.toNat, by simp only at hr; omega⟩
    obtain rfl := told_upd s (tkC (told s 64) s.clr ⟨m, tk, rt⟩) (n := m) (some (tk, rt)) h1.ris (fun r => by rw [h2]; rfl) (by simp only at hr; omega)
    exact ⟨v', h1, h4⟩
  · have hs : takeS s lim t now = s := if_neg hm
    rw [hs]
    refine (take_no b v (told s 64) lim s.clr now t w h (by omega) hm).mono ?_
    rintro e w' ⟨rfl, hb⟩
    exact ⟨rfl, Chg.below h hb⟩
theorem leaveB_lk (s : CSt) (r : Int) : leaveB s r = (lk (told s 64) r).isSome := by
  unfold leaveB
  by_cases h : 0 ≤ r ∧ r < 64
  · rw [lk_in s h.1 h.2, ofN_some, decide_eq_true h.1, decide_eq_true h.2]; rfl
  · rw [told_out s 64 r (by omega)]
    rcases (by omega : ¬ 0 ≤ r ∨ ¬ r < 64) with h | h
    · rw [decide_eq_false h]; rfl
    · rw [decide_eq_false h]; simp
theorem chg_leave {w w' : World} {b : Nat} {v : Value} {s : CSt} {lim r : Int} (hb : leaveB s r = true) (k : Lv w w' b v (told s 64) lim s.clr r) : Chg w w' b v lim (leaveS s r) := by
  have hs : leaveS s r = ⟨updO s.at' r.toNat none, if s.clr = r then -1 else s.clr⟩ := if_pos hb
  rw [hs]
  obtain ⟨⟨v', l', h1, h2, h3, h4⟩, hk⟩ := k
  have hr : 0 ≤ r ∧ r < 64 := by
    unfold leaveB at hb
    simp only [Bool.and_eq_true, decide_eq_true_eq] at hb
    exact hb.1
  obtain ⟨m, rfl⟩ : ∃ m : Nat, r = m := ⟨r.toNat, by omega⟩
  obtain rfl := told_upd s (if s.clr = (m : Int) then -1 else s.clr) (n := m) none h1.ris (fun r => by rw [h2]; rfl) (by omega)
  exact ⟨⟨v', h1, fun g hg => .inl (by rw [← h4]; exact hg)⟩, hk⟩
theorem bleave_any (b : Nat) (v : Value) (s : CSt) (lim r : Int) (w : World) (h : BkAt w b v (told s 64) lim s.clr) :
    Calls Try.prog 21 #[.pointer (some ⟨b, 0, none⟩), .int .i64 r] w fun e w' => e = .returned (.bool (leaveB s r && decide (s.clr = r))) ∧ Chg w w' b v lim (leaveS s r) := by
  have hl := told_len s 64
  cases hb : leaveB s r with
  | true =>
    refine (leave_yes b v (told s 64) lim s.clr r w h (by omega) (by rw [← leaveB_lk]; exact hb)).mono ?_
    rintro e w' ⟨rfl, hk⟩
    exact ⟨by simp, chg_leave hb hk⟩
  | false =>
    have hs : leaveS s r = s := if_neg (by rw [hb]; decide)
    rw [hs]
    refine (leave_no b v (told s 64) lim s.clr r w h (by omega) (by rw [← leaveB_lk]; exact hb)).mono ?_
    rintro e w' ⟨rfl, hbb⟩
    exact ⟨rfl, Chg.below h hbb⟩
theorem goes_pass {s : CSt} (h : ClrOk s) {lim now : Int} (hl : 0 ≤ lim) : goes (told s 64) lim s.clr now = passB s lim now := by
  unfold goes passB
  rcases h with e | ⟨q, hq, e, hs⟩
  · rw [e, told_out s 64 (-1) (by omega)]; rfl
  · rw [e, told_lk s 64 q hq, ofN_some, hs, (ofN_got s q).1, Int.toNat_natCast, decide_eq_true (by omega : (0 : Int) ≤ q)]
    by_cases hc : lim < now - tkO (s.at' q)
    · rw [decide_eq_true hc, decide_eq_true (by omega : tkO (s.at' q) < now)]; rfl
    · rw [decide_eq_false hc]; simp
theorem bpass_any (b : Nat) (v : Value) (s : CSt) (lim now : Int) (w : World) (h : BkAt w b v (told s 64) lim s.clr) (ho : SOk s) (hl : 0 ≤ lim) (hw : 0 ≤ now ∧ now ≤ 2199023255552) :
    Calls Try.prog 12 #[.pointer (some ⟨b, 0, none⟩), .int .i64 now] w fun e w' => e = .returned (.bool (passB s lim now)) ∧ Chg w w' b v lim (passS s lim now) := by
  have hll := told_len s 64
  have ht : 0 ≤ (gotV (lk (told s 64) s.clr)).tick ∧ (gotV (lk (told s 64) s.clr)).tick ≤ 1099511627776 := by
    rcases ho.clr with e | ⟨q, hq, e, hs⟩
    · rw [e, told_out s 64 (-1) (by omega)]; exact ⟨by decide, by decide⟩
    · rw [e, told_lk s 64 q hq, (ofN_got s q).1]; exact ho.tick q hq
  have hg := goes_pass ho.clr (now := now) hl
  cases hb : passB s lim now with
  | true =>
    rw [hb] at hg
    have hs : passS s lim now = leaveS s s.clr := if_pos hb
    rw [hs]
    have hlb : leaveB s s.clr = true := by
      rw [leaveB_lk]
      unfold goes at hg
      simp only [Bool.and_eq_true] at hg
      exact hg.1
    refine (pass_yes b v (told s 64) lim s.clr now w h (by omega) ht hw hg).mono ?_
    rintro e w' ⟨rfl, v', l', h1, h2, h3, h4, h5⟩
    exact ⟨rfl, chg_leave hlb ⟨⟨v', l', by rw [if_pos rfl]; exact h1, h2, h3, h4⟩, h5⟩⟩
  | false =>
    rw [hb] at hg
    have hs : passS s lim now = s := if_neg (by rw [hb]; decide)
    rw [hs]
    refine (pass_no b v (told s 64) lim s.clr now w h (by omega) ht hw hg).mono ?_
    rintro e w' ⟨rfl, hbb⟩
    exact ⟨rfl, Chg.below h hbb⟩
theorem SOk.take {s : CSt} (h : SOk s) (lim : Int) (t : Told) (now : Int) : SOk (takeS s lim t now) := by
  unfold takeS
  split
  · rename_i hm
    have hr : 0 ≤ t.frm ∧ t.frm < 64 ∧ 0 ≤ t.tick ∧ t.tick ≤ 1099511627776 := by
      unfold mayE at hm
      split at hm
      · cases hm
      · rename_i h1
        have := timeB_f (n := t.tick)
        have h2 : ¬ timeB t.tick = false := fun x => h1 (.inr (.inr (.inl x)))
        rw [this] at h2
        omega
    obtain ⟨fr, tk, rt⟩ := t
    simp only at hr
    obtain ⟨m, rfl⟩ : ∃ m : Nat, fr = m := ⟨fr.toNat, by omega⟩
    refine ⟨?_, fun n hn => ?_⟩
    · rw [tkC_in h.clr, Int.toNat_natCast]
      unfold takC ClrOk
      by_cases hc : s.clr < 0 ∨ rt < rtO (s.at' s.clr.toNat)
      · rw [if_pos hc]
        exact .inr ⟨m, by omega, rfl, by simp [updO]⟩
      · rw [if_neg hc]
        rcases h.clr with e | ⟨q, hq, e, hs⟩
        · exact .inl e
        · refine .inr ⟨q, hq, e, ?_⟩
          simp only [updO]
          split
          · rfl
          · exact hs
    · simp only [Int.toNat_natCast, updO]
      split
      · exact ⟨hr.2.2.1, hr.2.2.2⟩
      · exact h.tick n hn
  · exact h
theorem SOk.leave {s : CSt} (h : SOk s) (r : Int) : SOk (leaveS s r) := by
  unfold leaveS
  split
  · rename_i hb
    have hr : 0 ≤ r ∧ r < 64 := by
      unfold leaveB at hb
      simp only [Bool.and_eq_true, decide_eq_true_eq] at hb
      exact hb.1
    obtain ⟨m, rfl⟩ : ∃ m : Nat, r = m := ⟨r.toNat, by omega⟩
    refine ⟨?_, fun n hn => ?_⟩
    · unfold ClrOk
      by_cases hc : s.clr = m
      · simp only [if_pos hc]; exact .inl trivial
      · simp only [if_neg hc, Int.toNat_natCast]
        rcases h.clr with e | ⟨q, hq, e, hs⟩
        · exact .inl e
        · refine .inr ⟨q, hq, e, ?_⟩
          simp only [updO]
          rw [if_neg (by omega)]
          exact hs
    · simp only [Int.toNat_natCast, updO]
      split
      · exact ⟨by decide, by decide⟩
      · exact h.tick n hn
  · exact h
theorem SOk.pass {s : CSt} (h : SOk s) (lim now : Int) : SOk (passS s lim now) := by
  unfold passS
  split
  · exact h.leave _
  · exact h
end Go.Proofs.Ythnnhagccemnnaa
