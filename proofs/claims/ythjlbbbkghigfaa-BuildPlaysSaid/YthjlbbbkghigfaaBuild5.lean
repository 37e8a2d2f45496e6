/- build: Put. -/
import Derived.Test.YthjlbbbkghigfaaBuild4
namespace Go.Proofs.Ythjlbbbkghigfaa
open Go.RowKit
set_option linter.unusedVariables false
set_option linter.unusedSimpArgs false

theorem blk_ne {w : World} {b b' : Nat} {cs cs' : Array Value} {T T' : TypeId} (h : Blk w b cs T) (h' : Blk w b' cs' T') (ht : T ≠ T') : b ≠ b' := fun e => by
  subst e
  have h1 : w.heap[b]? = some (.cells cs T) := h
  have h2 : w.heap[b]? = some (.cells cs' T') := h'
  rw [h1] at h2
  cases h2
  exact ht rfl
theorem own_blk {w : World} {base size n : Nat} {e : TypeId} {v : Value} {xs : List Value} (h : w.ownsRow base e size v n xs) {g : Nat} (hg : v.ownBlock = some g) : ∃ cur, Blk w g cur e := by
  rcases h.2 with ⟨hv0, hz⟩ | ⟨g', cap, cur, hv0, hgb, hh, -⟩
  · subst hv0; cases hg
  · subst hv0; cases hg; exact ⟨cur, hh⟩
/-- its blocks -/
def BuSet (x : BuS) (q : Nat) : Prop := q = x.b ∨ q = x.hb ∨ x.hv.ownBlock = some q ∨ x.tv.ownBlock = some q ∨ x.lv.ownBlock = some q
theorem BuSet.new {x : BuS} {B q : Nat} (h : BuNew x B) (hq : BuSet x q) : B ≤ q := by
  rcases hq with rfl | rfl | hq | hq | hq
  · exact h.b
  · exact h.hb
  · exact h.hv q hq
  · exact h.tv q hq
  · exact h.lv q hq
/-- an error's number -/
def putE (x : BuS) (block tick : Int) (len : Nat) : Int :=
  if x.ov then 24 else if ¬ (0 ≤ block ∧ block < nb x.s x.k) ∨ tick < 0 ∨ 1099511627776 < tick then 11
  else if (len : Int) ≠ min (block * x.k + x.k) x.s - block * x.k then 10 else if cov x.L block then 13 else 0
/-- what Put leaves -/
structure PutR (x : BuS) (block tick : Int) (bs : List Int) (w w' : World) (x' : BuS) : Prop where
  at_ : BuAt w' x'
  same : x'.b = x.b ∧ x'.pb = x.pb ∧ x'.hb = x.hb ∧ x'.s = x.s ∧ x'.k = x.k ∧ x'.n = x.n ∧ x'.ov = x.ov
  no : putE x block tick bs.length ≠ 0 → x'.L = x.L ∧ x'.text = x.text ∧ x'.log = x.log
  yes : putE x block tick bs.length = 0 → (∀ t, cov x'.L t = (cov x.L t || decide (t = block))) ∧ x'.text = splice x.text (block.toNat * x.k) bs ∧ x'.log = x.log ++ [⟨block, block * x.k, min (block * x.k + x.k) x.s, tick⟩]
  fresh : ∀ B, B ≤ w.heap.size → BuNew x B → BuNew x' B
  keep : Keep (BuSet x) w w'
  own : ∀ q, BuSet x' q → BuSet x q ∨ w.heap.size ≤ q
theorem PutR.err {x : BuS} {block tick : Int} {bs : List Int} {w w' : World} (h : BuAt w x) (hb : Below w.heap.size w w') (hE : putE x block tick bs.length ≠ 0) : PutR x block tick bs w w' x :=
  ⟨h.below hb, ⟨rfl, rfl, rfl, rfl, rfl, rfl, rfl⟩, fun _ => ⟨rfl, rfl, rfl⟩, fun e => absurd e hE, fun _ _ h => h, (Keep.none hb).mono (fun _ _ h => h.elim), fun _ h => .inl h⟩
set_option maxRecDepth 100000 in
set_option maxHeartbeats 2000000 in
/-- Put of no block -/
theorem put_out (x : BuS) (block tick : Int) (v : Value) (bs : List Int) (w : World) (h : BuAt w x) (hr : Reads w 1 v bs.length (bs.map (Value.int .u8))) (hi : ¬ (0 ≤ block ∧ block < nb x.s x.k)) :
    Calls Try.prog 10 #[.pointer (some ⟨x.b, 0, none⟩), .int .i64 block, v, .int .i64 tick] w fun e w' => ∃ x', e = .returned (.int .i64 (putE x block tick bs.length)) ∧ PutR x block tick bs w w' x' := by
  have HBY := Lib.hid (bytes_no x.pb x.s x.k x.n block w h.plan h.ok hi)
  have hE : putE x block tick bs.length = if x.ov then 24 else 11 := by unfold putE; rw [if_pos (.inl hi : ¬ (0 ≤ block ∧ block < nb x.s x.k) ∨ tick < 0 ∨ 1099511627776 < tick)]
  have HFIN : Hid (∀ w', Below w.heap.size w w' → PutR x block tick bs w w' x) := fun w' hb => PutR.err h hb (by rw [hE]; cases x.ov <;> simp)
  have H := Lib.hid h
  obtain ⟨A0, k0, rfl, -⟩ := hr.val
  obtain ⟨c0, c1, c2, c3, c4⟩ := h.c
  rw [hE]
  obtain ⟨ov, hov⟩ : ∃ ov, ov = x.ov := ⟨_, rfl⟩
  have HOV := Lib.hid hov
  rw [← hov]
  clear h hr hi hE hov
  cases ov with
  | true =>
    go_enter Try.func10, Try.ntmps10
    go_wp2_with fail
    refine HBY.out.mono ?_
    rintro e w1 ⟨rfl, hb⟩
    have HF := Lib.hid (HFIN.out w1 hb)
    obtain ⟨d0, d1, d2, d3, d4⟩ := (H.out.below hb).c
    rw [← HOV.out] at d4
    clear hb
    go_wp2
    go_ret
    first | exact ⟨rfl, x, HF.out⟩ | exact ⟨x, rfl, HF.out⟩
  | false =>
    go_enter Try.func10, Try.ntmps10
    go_wp2_with fail
    refine HBY.out.mono ?_
    rintro e w1 ⟨rfl, hb⟩
    have HF := Lib.hid (HFIN.out w1 hb)
    obtain ⟨d0, d1, d2, d3, d4⟩ := (H.out.below hb).c
    rw [← HOV.out] at d4
    clear hb
    go_wp2
    go_ret
    first | exact ⟨rfl, x, HF.out⟩ | exact ⟨x, rfl, HF.out⟩
set_option maxRecDepth 100000 in
set_option maxHeartbeats 4000000 in
/-- Put that is refused, of a block -/
theorem put_err (x : BuS) (i : Nat) (tick : Int) (v : Value) (bs : List Int) (w : World) (h : BuAt w x) (hr : Reads w 1 v bs.length (bs.map (Value.int .u8))) (hi : i < nb x.s x.k) (hE0 : putE x i tick bs.length ≠ 0) :
    Calls Try.prog 10 #[.pointer (some ⟨x.b, 0, none⟩), .int .i64 i, v, .int .i64 tick] w fun e w' => ∃ x', e = .returned (.int .i64 (putE x i tick bs.length)) ∧ PutR x i tick bs w w' x' := by
  have hz := nb_le h.ok.1 h.ok.2.1
  have hmul := mul_le' (i := i) (k := x.k) (by omega) h.ok.2.2.1
  have hby := bytes_yes x.pb x.s x.k x.n i w h.plan h.ok hi
  have HFIN : Hid (∀ w', Below w.heap.size w w' → PutR x i tick bs w w' x) := fun w' hb => PutR.err h hb hE0
  have H := Lib.hid h
  have hk := h.ok.2.2.1
  have hs := h.ok.1
  have HHS := Lib.hid (fun w h => bhas_any x i w h (by omega))
  obtain ⟨A0, k0, rfl, -⟩ := hr.val
  obtain ⟨c0, c1, c2, c3, c4⟩ := h.c
  obtain ⟨f, hf⟩ : ∃ f : Int, f = ((i * x.k : Nat) : Int) := ⟨_, rfl⟩
  obtain ⟨t, ht⟩ : ∃ t : Int, t = min ((i * x.k + x.k : Nat) : Int) x.s := ⟨_, rfl⟩
  have hE : putE x i tick bs.length = if x.ov then 24 else if tick < 0 ∨ 1099511627776 < tick then 11 else if (bs.length : Int) ≠ t - f then 10 else if cov x.L i then 13 else 0 := by
    unfold putE
    have e1 : (¬ (0 ≤ (i : Int) ∧ (i : Int) < nb x.s x.k) ∨ tick < 0 ∨ 1099511627776 < tick) ↔ (tick < 0 ∨ 1099511627776 < tick) := by omega
    have e2 : min ((i : Int) * x.k + x.k) x.s - (i : Int) * x.k = t - f := by rw [ht, hf]; simp
    rw [e2]
    simp only [e1]
  rw [← hf, ← ht] at hby
  have HBY := Lib.hid hby
  have hf0 : 0 ≤ f ∧ f ≤ 1048576 := by omega
  have ht0 : 0 ≤ t ∧ t ≤ 16384 := by omega
  rw [hE] at hE0 ⊢
  obtain ⟨m, hm⟩ : ∃ m, m = bs.length := ⟨_, rfl⟩
  have HM := Lib.hid hm
  rw [← hm] at hE0 ⊢
  obtain ⟨ov, hov⟩ : ∃ ov, ov = x.ov := ⟨_, rfl⟩
  have HOV := Lib.hid hov
  rw [← hov] at hE0 ⊢
  obtain ⟨cb, hcb⟩ : ∃ cb, cb = cov x.L (i : Int) := ⟨_, rfl⟩
  rw [← hcb] at hE0 HHS ⊢
  obtain ⟨hf1, hf2⟩ := hf0
  obtain ⟨ht1, ht2⟩ := ht0
  clear h hr hi hE hov hf ht hby hm hcb
  cases ov with
  | true =>
    go_enter Try.func10, Try.ntmps10
    go_wp2_with fail
    refine HBY.out.mono ?_
    rintro e w1 ⟨rfl, hb⟩
    have HF := Lib.hid (HFIN.out w1 hb)
    obtain ⟨d0, d1, d2, d3, d4⟩ := (H.out.below hb).c
    rw [← HOV.out] at d4
    clear hb
    go_wp2
    go_ret
    first | exact ⟨rfl, x, HF.out⟩ | exact ⟨x, rfl, HF.out⟩
  | false =>
    rw [if_neg Bool.false_ne_true] at hE0 ⊢
    by_cases h1 : tick < 0 ∨ 1099511627776 < tick
    · rw [if_pos h1]
      clear hE0
      rcases h1 with h1 | h1
      · go_enter Try.func10, Try.ntmps10
        go_wp2_with fail
        refine HBY.out.mono ?_
        rintro e w1 ⟨rfl, hb⟩
        have HF := Lib.hid (HFIN.out w1 hb)
        obtain ⟨d0, d1, d2, d3, d4⟩ := (H.out.below hb).c
        rw [← HOV.out] at d4
        clear hb
        go_wp2
        go_ret
        first | exact ⟨rfl, x, HF.out⟩ | exact ⟨x, rfl, HF.out⟩
      · go_enter Try.func10, Try.ntmps10
        go_wp2_with fail
        refine HBY.out.mono ?_
        rintro e w1 ⟨rfl, hb⟩
        have HF := Lib.hid (HFIN.out w1 hb)
        obtain ⟨d0, d1, d2, d3, d4⟩ := (H.out.below hb).c
        rw [← HOV.out] at d4
        clear hb
        go_wp2
        go_ret
        first | exact ⟨rfl, x, HF.out⟩ | exact ⟨x, rfl, HF.out⟩
    · rw [if_neg h1] at hE0 ⊢
      have h2 : ¬ tick < 0 := by omega
      have h3 : ¬ 1099511627776 < tick := by omega
      by_cases h4 : (m : Int) = t - f
      · rw [if_neg (by omega : ¬ (m : Int) ≠ t - f)] at hE0 ⊢
        cases cb with
        | false => exact absurd rfl hE0
        | true =>
          have h5 : ((m : Int) != t - f) = false := by simp [h4]
          clear hE0 h4
          go_enter Try.func10, Try.ntmps10
          go_wp2_with fail
          refine HBY.out.mono ?_
          rintro e w1 ⟨rfl, hb⟩
          have HB1 := Lib.hid hb
          obtain ⟨d0, d1, d2, d3, d4⟩ := (H.out.below hb).c
          rw [← HOV.out] at d4
          have HH1 := Lib.hid (HHS.out w1 (H.out.below hb))
          clear hb
          go_wp2_with fail
          refine HH1.out.mono ?_
          rintro e w2 ⟨rfl, hb2⟩
          have HF := Lib.hid (HFIN.out w2 (bmore HB1.out hb2 HB1.out.size))
          clear hb2
          go_wp2
          go_ret
          first | exact ⟨rfl, x, HF.out⟩ | exact ⟨x, rfl, HF.out⟩
      · rw [if_pos h4]
        have h5 : ((m : Int) != t - f) = true := by simpa using h4
        clear hE0 h4
        go_enter Try.func10, Try.ntmps10
        go_wp2_with fail
        refine HBY.out.mono ?_
        rintro e w1 ⟨rfl, hb⟩
        have HF := Lib.hid (HFIN.out w1 hb)
        obtain ⟨d0, d1, d2, d3, d4⟩ := (H.out.below hb).c
        rw [← HOV.out] at d4
        clear hb
        go_wp2
        go_ret
        first | exact ⟨rfl, x, HF.out⟩ | exact ⟨x, rfl, HF.out⟩
end Go.Proofs.Ythjlbbbkghigfaa
