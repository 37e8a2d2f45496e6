/- gaps: the reference: Ask. -/
import Derived.Test.YtkgngmmlfoiajaaGapsRef3
namespace Go.Proofs.Ytkgngmmlfoiajaa
open Go.RowKit
set_option linter.unusedVariables false
set_option linter.unusedSimpArgs false

theorem owns_apart {w : World} {b1 b2 : Nat} {e1 e2 : TypeId} {s1 s2 n1 n2 : Nat} {v1 v2 : Value} {x1 x2 : List Value} (h1 : w.ownsRow b1 e1 s1 v1 n1 x1) (h2 : w.ownsRow b2 e2 s2 v2 n2 x2) (hne : e1 ≠ e2) {g : Nat} (hg1 : v1.ownBlock = some g) (hg2 : v2.ownBlock = some g) : False := by
  rcases h1.2 with ⟨rfl, _⟩ | ⟨g1, cap, cur, rfl, hb, hh, _⟩
  · cases hg1
  · rcases h2.2 with ⟨rfl, _⟩ | ⟨g2, cap2, cur2, rfl, hb2, hh2, _⟩
    · cases hg2
    · cases hg1
      cases hg2
      rw [hh] at hh2
      cases hh2
      exact hne rfl
theorem set4_keep (S : Nat → Prop) (w : World) (g : Nat) (hg : S g) (v0 v1 v2 v3 : Value) : Keep S w ((((w.setCell ⟨g, 0, none⟩ v0).setCell ⟨g, 1, none⟩ v1).setCell ⟨g, 2, none⟩ v2).setCell ⟨g, 3, none⟩ v3) :=
  keep_set4 (Keep.refl S w) hg v0 v1 v2 v3 0 1 2 3

structure RAI (w wr : World) (vo va : Value) (outs : List Hole) (aq : List (Int × Int)) (k na : Nat) : Prop where
  ro : wr.ownsRow w.heap.size 49 4 vo k (outs.flatMap holeCells)
  ra : wr.ownsRow w.heap.size 36 2 va na (aq.flatMap pairCells)
  bel : Below w.heap.size w wr
  nal : na = aq.length
  le : na ≤ 16
theorem RAI.keep {w wr w' : World} {vo va : Value} {outs : List Hole} {aq : List (Int × Int)} {k na : Nat} (h : RAI w wr vo va outs aq k na) {S : Nat → Prop} (hk : Keep S wr w') (h1 : ∀ g, vo.ownBlock = some g → ¬ S g) (h2 : ∀ g, va.ownBlock = some g → ¬ S g) (h3 : ∀ g, S g → w.heap.size ≤ g) : RAI w w' vo va outs aq k na :=
  ⟨ownsRow_keep h.ro hk h1, ownsRow_keep h.ra hk h2, bkeep h.bel hk (Nat.le_refl _) h3, h.nal, h.le⟩
theorem RAI.below {w wr w' : World} {vo va : Value} {outs : List Hole} {aq : List (Int × Int)} {k na : Nat} (h : RAI w wr vo va outs aq k na) (hb : Below wr.heap.size wr w') : RAI w w' vo va outs aq k na :=
  h.keep (Keep.none hb) (fun _ _ => id) (fun _ _ => id) (fun _ h => h.elim)
/-- the round's end: the hole is told -/
theorem RAI.app {w wr w2 : World} {vo va v2 : Value} {outs : List Hole} {aq : List (Int × Int)} {k na : Nat} (h : RAI w wr vo va outs aq k na) (y : Hole)
    (ho : w2.ownsRow w.heap.size 49 4 v2 (k + 1) (outs.flatMap holeCells ++ #[Value.int .i64 y.block, .int .i64 y.due, .int .i64 y.wait, .int .i64 y.tries].toList)) (hk : Keep (fun k => vo.ownBlock = some k) wr w2) : RAI w w2 v2 va (outs ++ [y]) aq (k + 1) na :=
  ⟨by rw [flat_snoc]; exact ho, ownsRow_keep h.ra hk (fun g hg e => owns_apart h.ro h.ra (by decide) e hg), bkeep h.bel hk (Nat.le_refl _) (fun g hg => (h.ro.lt g hg).1), h.nal, h.le⟩
/-- the asked list is another one -/
theorem RAI.ask {w wr w2 : World} {vo va v2 : Value} {outs : List Hole} {aq : List (Int × Int)} {k na : Nat} (h : RAI w wr vo va outs aq k na) (hn : na < 16) (y : Int × Int)
    (ha : w2.ownsRow w.heap.size 36 2 v2 (na + 1) (aq.flatMap pairCells ++ #[Value.int .i64 y.1, .int .i64 y.2].toList)) (hk : Keep (fun k => va.ownBlock = some k) wr w2) : RAI w w2 vo v2 outs (aq ++ [y]) k (na + 1) :=
  ⟨ownsRow_keep h.ro hk (fun g hg e => owns_apart h.ro h.ra (by decide) hg e), by rw [List.flatMap_append]; simpa [pairCells] using ha, bkeep h.bel hk (Nat.le_refl _) (fun g hg => (h.ra.lt g hg).1), by rw [List.length_append, ← h.nal]; rfl, by omega⟩
/-- what the reference's Ask leaves -/
def RAskd (w w' : World) (e : Ending) (n : Nat) (R : List Hole × List (Int × Int)) : Prop := ∃ vo va na, e = .returned (.tuple #[vo, va]) ∧ RAI w w' vo va R.1 R.2 n na
theorem rai_full {l : List Hole} {R : List Hole × List (Int × Int)} {outs : List Hole} {aq : List (Int × Int)} {k : Nat} {x : Hole} {now m lg : Int} (hx : l[k]? = some x) (h : R = if true then (outs ++ l.drop k, aq) else (outs ++ (askGo now m lg (l.drop k) aq).1, (askGo now m lg (l.drop k) aq).2)) :
    R = if true then ((outs ++ [x]) ++ l.drop (k + 1), aq) else ((outs ++ [x]) ++ (askGo now m lg (l.drop (k + 1)) aq).1, (askGo now m lg (l.drop (k + 1)) aq).2) := by
  rw [if_pos rfl] at h ⊢
  rw [h, drop_at hx]; simp
theorem rai_skip {l : List Hole} {R : List Hole × List (Int × Int)} {outs : List Hole} {aq : List (Int × Int)} {k : Nat} {x : Hole} {now m lg : Int} (hx : l[k]? = some x) (hd : now < x.due) (h : R = if false then (outs ++ l.drop k, aq) else (outs ++ (askGo now m lg (l.drop k) aq).1, (askGo now m lg (l.drop k) aq).2)) :
    R = if false then ((outs ++ [x]) ++ l.drop (k + 1), aq) else ((outs ++ [x]) ++ (askGo now m lg (l.drop (k + 1)) aq).1, (askGo now m lg (l.drop (k + 1)) aq).2) := by
  rw [if_neg (by decide)] at h ⊢
  have e : askGo now m lg (x :: l.drop (k + 1)) aq = (x :: (askGo now m lg (l.drop (k + 1)) aq).1, (askGo now m lg (l.drop (k + 1)) aq).2) := by
    conv => lhs; unfold askGo
    rw [if_pos hd]
  rw [h, drop_at hx, e]; simp
theorem rai_stop {l : List Hole} {R : List Hole × List (Int × Int)} {outs : List Hole} {aq : List (Int × Int)} {k : Nat} {x : Hole} {now m lg : Int} (hx : l[k]? = some x) (hs : ∀ t, askGo now m lg (x :: t) aq = (x :: t, aq)) (h : R = if false then (outs ++ l.drop k, aq) else (outs ++ (askGo now m lg (l.drop k) aq).1, (askGo now m lg (l.drop k) aq).2)) :
    R = if true then ((outs ++ [x]) ++ l.drop (k + 1), aq) else ((outs ++ [x]) ++ (askGo now m lg (l.drop (k + 1)) aq).1, (askGo now m lg (l.drop (k + 1)) aq).2) := by
  rw [if_neg (by decide)] at h
  rw [if_pos rfl, h, drop_at hx, hs]; simp
theorem rai_ask {l : List Hole} {R : List Hole × List (Int × Int)} {outs : List Hole} {aq aq' : List (Int × Int)} {k : Nat} {x : Hole} {now m lg : Int} (hx : l[k]? = some x) (hs : ∀ t, askGo now m lg (x :: t) aq = (ask1 now lg x :: (askGo now m lg t aq').1, (askGo now m lg t aq').2)) (h : R = if false then (outs ++ l.drop k, aq) else (outs ++ (askGo now m lg (l.drop k) aq).1, (askGo now m lg (l.drop k) aq).2)) :
    R = if false then ((outs ++ [ask1 now lg x]) ++ l.drop (k + 1), aq') else ((outs ++ [ask1 now lg x]) ++ (askGo now m lg (l.drop (k + 1)) aq').1, (askGo now m lg (l.drop (k + 1)) aq').2) := by
  rw [if_neg (by decide)] at h ⊢
  rw [h, drop_at hx, hs]; simp
theorem RAI.bump {w wz : World} {vo : Value} {outs : List Hole} {aq : List (Int × Int)} {k q g2 ca : Nat} (h : RAI w wz vo (.slice (some ⟨g2, 0, none⟩) (q + 1) ca) outs aq k (q + 1)) {y : Int × Int} {z : Int} (hy : aq[q]? = some y) (hb : bump aq = aq.set q (y.1, z)) (j : Nat) :
    RAI w ((wz.drewN j).setCell ⟨g2, q * 2 + 1, none⟩ (.int .i64 z)) vo (.slice (some ⟨g2, 0, none⟩) (q + 1) ca) outs (bump aq) k (q + 1) := by
  have hg2 : w.heap.size ≤ g2 := (h.ra.lt g2 rfl).1
  refine ⟨ownsRow_keep (ownsRow_drewN h.ro j) ((Keep.refl (fun k => k = g2) _).setCell (.inl rfl) _) (fun g hg e => owns_apart h.ro h.ra (by decide) (e ▸ hg) rfl), ?_, ?_, by rw [bump_len]; exact h.nal, h.le⟩
  · have h1 := ownsRow_set (ownsRow_drewN h.ra j) (j := q * 2 + 1) (by rw [flatMap_length pairCells_len, ← h.nal]; omega) (.int .i64 z)
    rw [pairs_set aq q y _ hy, ← hb] at h1
    exact h1
  · exact bkeep h.bel (((Keep.refl (fun k => k = g2) wz).drewN j).setCell (.inl rfl) _) (Nat.le_refl _) (fun k hk => by omega)
theorem rai_end {l : List Hole} {R : List Hole × List (Int × Int)} {outs : List Hole} {aq : List (Int × Int)} {k : Nat} {full : Bool} {now m lg : Int} (hk : l.length ≤ k) (h : R = if full then (outs ++ l.drop k, aq) else (outs ++ (askGo now m lg (l.drop k) aq).1, (askGo now m lg (l.drop k) aq).2)) : R = (outs, aq) := by
  rw [List.drop_of_length_le hk] at h
  cases full <;> simpa [askGo] using h

set_option maxRecDepth 100000 in
set_option maxHeartbeats 8000000 in
theorem rask_lo (K : Nat) (A : Option Addr) (c n : Nat) (l : List Hole) (now most lg : Int) (w : World) (h : Reads w 4 (.slice A n c) n (l.flatMap holeCells)) (hl : n = l.length) (hn : n ≤ 100000) (hr : Rl K l) (hK : K ≤ 100000) (hlg1 : 1 ≤ lg) (hlg2 : lg ≤ 1048576) (hmost : most ≤ 16) :
    Calls Try.prog 26 #[.slice A n c, .int .i64 now, .int .i64 most, .int .i64 lg] w fun e w' => RAskd w w' e n (askL now most lg l) := by
  obtain ⟨i0, hi, hz0, hz1, hz2⟩ := info_parts info_rhole
  obtain ⟨j0, hj, hy0, hy1, hy2⟩ := info_parts info_pair
  have HX0 := Lib.hid h
  have HL := Lib.hid hl
  have HR := Lib.hid hr
  have HI0 : Hid (RAI w w (.slice none 0 0) (.slice none 0 0) [] [] 0 0) := ⟨World.ownsRow_nil _ _ _ _, World.ownsRow_nil _ _ _ _, Below.refl _ _, rfl, by omega⟩
  have hR0 : askL now most lg l = if (!inT now) then (([] : List Hole) ++ l.drop 0, []) else ([] ++ (askGo now most lg (l.drop 0) []).1, (askGo now most lg (l.drop 0) []).2) := by
    unfold askL
    have e : min most 16 = most := by omega
    rw [e]
    cases inT now <;> rfl
  obtain ⟨R, hRR⟩ : ∃ R, R = askL now most lg l := ⟨_, rfl⟩
  rw [← hRR] at hR0
  have HRR := Lib.hid hRR
  obtain ⟨ft, hft⟩ : ∃ ft, ft = !inT now := ⟨_, rfl⟩
  rw [← hft] at hR0
  have hftc : (ft = true ∧ (now < 0 ∨ (0 ≤ now ∧ 1099511627776 < now))) ∨ (ft = false ∧ 0 ≤ now ∧ now ≤ 1099511627776) := by
    cases e : inT now with
    | true => rw [e] at hft; exact .inr ⟨hft, inT_iff.1 e⟩
    | false =>
      rw [e] at hft
      refine .inl ⟨hft, ?_⟩
      by_cases g1 : now < 0
      · exact .inl g1
      · refine .inr ⟨by omega, ?_⟩
        by_cases g2 : now ≤ 1099511627776
        · exact absurd (inT_iff.2 ⟨by omega, g2⟩) (by rw [e]; decide)
        · omega
  have HR0 := Lib.hid hR0
  clear h hl hr hRR hft hR0
  rcases hftc with ⟨rfl, hnow | ⟨hnow, hnow2⟩⟩ | ⟨rfl, hnow, hnow2⟩
  · go_enter Try.func26, Try.ntmps26
    go_wp2
    go_loopw [10, 11, 12, 13, 14, 15, 16] (fun va vo fu i _ _ _ wr => ∃ (k : Nat) (outs : List Hole) (aq : List (Int × Int)) (na : Nat) (full : Bool), k ≤ n ∧ i = .int .i64 k ∧ full = true ∧ fu = .bool full ∧ Hid (RAI w wr vo va outs aq k na) ∧ Hid (R = if full then (outs ++ l.drop k, aq) else (outs ++ (askGo now most lg (l.drop k) aq).1, (askGo now most lg (l.drop k) aq).2))) (fun _ _ _ i _ _ _ _ => n - (intOf i).toNat)
    case atStart => exact ⟨0, [], [], 0, true, by omega, rfl, rfl, by first | rfl | (simp; omega) | simp, HI0, HR0⟩
    case round =>
      obtain ⟨k, outs, aq, na, full, hk, rfl, rfl, rfl, HI, HE⟩ := hrel
      by_cases hlt : k < n
      · obtain ⟨x, hx⟩ : ∃ x, l[k]? = some x := ⟨_, List.getElem?_eq_getElem (by rw [← HL.out]; exact hlt)⟩
        obtain ⟨b0, b1, d0, d1, w0, w1, t0, t1⟩ := HR.out.fine x (List.mem_of_getElem? hx)
        obtain ⟨g1, p1, c1, he1, hcs⟩ := Reads.elem (HX0.out.below HI.out.bel) holeCells_len (by omega) hx
        have a0 := hcs 0 _ rfl
        have a1 := hcs 1 _ rfl
        have a2 := hcs 2 _ rfl
        have a3 := hcs 3 _ rfl
        cases he1
        simp only [Nat.add_zero] at a0
        have i1 : (0 : Int) ≤ (k : Int) := by omega
        have i2 : (k : Int) < (n : Int) := by omega
        have hs := HI.out.bel.size
        have hsz : w.heap.size ≤ (wr.alloc (.cells #[.int .i64 x.block, .int .i64 x.due, .int .i64 x.wait, .int .i64 x.tries] 49)).heap.size := by simp; omega
        have HX := Lib.hid hx
        have HZ := Lib.hid (HI.out.below ((Below.refl _ wr).alloc (Nat.le_refl _) (.cells #[.int .i64 x.block, .int .i64 x.due, .int .i64 x.wait, .int .i64 x.tries] 49)))
        have HLO := Lib.hid (fun g hg => (HI.out.ro.lt g hg).2)
        have HLA := Lib.hid (fun g hg => (HI.out.ra.lt g hg).2)
        have hle := HI.out.le
        obtain ⟨Aa, ca, hva⟩ := ownsRow_slice HI.out.ra
        subst hva
        clear hx hcs
        · have hF := rai_full HX.out HE.out
          have HF := Lib.hid hF
          clear hF
          have hd' : now < x.due := by omega
          go_wp2_with (at_builtin; refine wpList_app1n rfl _ _ 42 rfl w.heap.size 49 i0 _ 4 32 Try.underlying42 hi hz0 hz1 hz2 rfl _ _ _ rfl HZ.out.ro (wr.heap.size + 1) (by simp) #[.int .i64 x.block, .int .i64 x.due, .int .i64 x.wait, .int .i64 x.tries] 1 rfl rfl (four_one _ _ _ _) (by omega) (by omega) hsz ?_; rintro A2 c2 w2 hown2 hk2 - -)
          have HJ := Lib.hid (HZ.out.app x hown2 hk2)
          have HEJ := Lib.hid (HF.out)
          clear hown2 hk2
          go_wp2
          go_roundw
          case rel => exact ⟨k + 1, _, _, _, true, by omega, by go_num, rfl, rfl, HJ, HEJ⟩
          case measure => simp [intOf]; omega
      · obtain rfl : k = n := by omega
        have he := rai_end (by rw [← HL.out]; omega) HE.out
        have HJ := HI.out
        rw [HRR.out] at he
        have HEQ := Lib.hid he
        have HJ2 := Lib.hid HJ
        clear he HJ
        go_wp2
        go_ret2
        exact ⟨_, _, na, rfl, by rw [HEQ.out]; exact HJ2.out⟩
  · go_enter Try.func26, Try.ntmps26
    go_wp2
    go_loopw [10, 11, 12, 13, 14, 15, 16] (fun va vo fu i _ _ _ wr => ∃ (k : Nat) (outs : List Hole) (aq : List (Int × Int)) (na : Nat) (full : Bool), k ≤ n ∧ i = .int .i64 k ∧ full = true ∧ fu = .bool full ∧ Hid (RAI w wr vo va outs aq k na) ∧ Hid (R = if full then (outs ++ l.drop k, aq) else (outs ++ (askGo now most lg (l.drop k) aq).1, (askGo now most lg (l.drop k) aq).2))) (fun _ _ _ i _ _ _ _ => n - (intOf i).toNat)
    case atStart => exact ⟨0, [], [], 0, true, by omega, rfl, rfl, by first | rfl | (simp; omega) | simp, HI0, HR0⟩
    case round =>
      obtain ⟨k, outs, aq, na, full, hk, rfl, rfl, rfl, HI, HE⟩ := hrel
      by_cases hlt : k < n
      · obtain ⟨x, hx⟩ : ∃ x, l[k]? = some x := ⟨_, List.getElem?_eq_getElem (by rw [← HL.out]; exact hlt)⟩
        obtain ⟨b0, b1, d0, d1, w0, w1, t0, t1⟩ := HR.out.fine x (List.mem_of_getElem? hx)
        obtain ⟨g1, p1, c1, he1, hcs⟩ := Reads.elem (HX0.out.below HI.out.bel) holeCells_len (by omega) hx
        have a0 := hcs 0 _ rfl
        have a1 := hcs 1 _ rfl
        have a2 := hcs 2 _ rfl
        have a3 := hcs 3 _ rfl
        cases he1
        simp only [Nat.add_zero] at a0
        have i1 : (0 : Int) ≤ (k : Int) := by omega
        have i2 : (k : Int) < (n : Int) := by omega
        have hs := HI.out.bel.size
        have hsz : w.heap.size ≤ (wr.alloc (.cells #[.int .i64 x.block, .int .i64 x.due, .int .i64 x.wait, .int .i64 x.tries] 49)).heap.size := by simp; omega
        have HX := Lib.hid hx
        have HZ := Lib.hid (HI.out.below ((Below.refl _ wr).alloc (Nat.le_refl _) (.cells #[.int .i64 x.block, .int .i64 x.due, .int .i64 x.wait, .int .i64 x.tries] 49)))
        have HLO := Lib.hid (fun g hg => (HI.out.ro.lt g hg).2)
        have HLA := Lib.hid (fun g hg => (HI.out.ra.lt g hg).2)
        have hle := HI.out.le
        obtain ⟨Aa, ca, hva⟩ := ownsRow_slice HI.out.ra
        subst hva
        clear hx hcs
        · have hF := rai_full HX.out HE.out
          have HF := Lib.hid hF
          clear hF
          by_cases hd : x.due ≤ now
          · go_wp2_with (at_builtin; refine wpList_app1n rfl _ _ 42 rfl w.heap.size 49 i0 _ 4 32 Try.underlying42 hi hz0 hz1 hz2 rfl _ _ _ rfl HZ.out.ro (wr.heap.size + 1) (by simp) #[.int .i64 x.block, .int .i64 x.due, .int .i64 x.wait, .int .i64 x.tries] 1 rfl rfl (four_one _ _ _ _) (by omega) (by omega) hsz ?_; rintro A2 c2 w2 hown2 hk2 - -)
            have HJ := Lib.hid (HZ.out.app x hown2 hk2)
            have HEJ := Lib.hid (HF.out)
            clear hown2 hk2
            go_wp2
            go_roundw
            case rel => exact ⟨k + 1, _, _, _, true, by omega, by go_num, rfl, rfl, HJ, HEJ⟩
            case measure => simp [intOf]; omega
          · have hd' : now < x.due := by omega
            clear hd
            go_wp2_with (at_builtin; refine wpList_app1n rfl _ _ 42 rfl w.heap.size 49 i0 _ 4 32 Try.underlying42 hi hz0 hz1 hz2 rfl _ _ _ rfl HZ.out.ro (wr.heap.size + 1) (by simp) #[.int .i64 x.block, .int .i64 x.due, .int .i64 x.wait, .int .i64 x.tries] 1 rfl rfl (four_one _ _ _ _) (by omega) (by omega) hsz ?_; rintro A2 c2 w2 hown2 hk2 - -)
            have HJ := Lib.hid (HZ.out.app x hown2 hk2)
            have HEJ := Lib.hid (HF.out)
            clear hown2 hk2
            go_wp2
            go_roundw
            case rel => exact ⟨k + 1, _, _, _, true, by omega, by go_num, rfl, rfl, HJ, HEJ⟩
            case measure => simp [intOf]; omega
      · obtain rfl : k = n := by omega
        have he := rai_end (by rw [← HL.out]; omega) HE.out
        have HJ := HI.out
        rw [HRR.out] at he
        have HEQ := Lib.hid he
        have HJ2 := Lib.hid HJ
        clear he HJ
        go_wp2
        go_ret2
        exact ⟨_, _, na, rfl, by rw [HEQ.out]; exact HJ2.out⟩
  · go_enter Try.func26, Try.ntmps26
    go_wp2
    go_loopw [10, 11, 12, 13, 14, 15, 16] (fun va vo fu i _ _ _ wr => ∃ (k : Nat) (outs : List Hole) (aq : List (Int × Int)) (na : Nat) (full : Bool), k ≤ n ∧ i = .int .i64 k ∧ fu = .bool full ∧ Hid (RAI w wr vo va outs aq k na) ∧ Hid (R = if full then (outs ++ l.drop k, aq) else (outs ++ (askGo now most lg (l.drop k) aq).1, (askGo now most lg (l.drop k) aq).2))) (fun _ _ _ i _ _ _ _ => n - (intOf i).toNat)
    case atStart => exact ⟨0, [], [], 0, false, by omega, rfl, by first | rfl | (simp; omega) | simp, HI0, HR0⟩
    case round =>
      obtain ⟨k, outs, aq, na, full, hk, rfl, rfl, HI, HE⟩ := hrel
      by_cases hlt : k < n
      · obtain ⟨x, hx⟩ : ∃ x, l[k]? = some x := ⟨_, List.getElem?_eq_getElem (by rw [← HL.out]; exact hlt)⟩
        obtain ⟨b0, b1, d0, d1, w0, w1, t0, t1⟩ := HR.out.fine x (List.mem_of_getElem? hx)
        obtain ⟨g1, p1, c1, he1, hcs⟩ := Reads.elem (HX0.out.below HI.out.bel) holeCells_len (by omega) hx
        have a0 := hcs 0 _ rfl
        have a1 := hcs 1 _ rfl
        have a2 := hcs 2 _ rfl
        have a3 := hcs 3 _ rfl
        cases he1
        simp only [Nat.add_zero] at a0
        have i1 : (0 : Int) ≤ (k : Int) := by omega
        have i2 : (k : Int) < (n : Int) := by omega
        have hs := HI.out.bel.size
        have hsz : w.heap.size ≤ (wr.alloc (.cells #[.int .i64 x.block, .int .i64 x.due, .int .i64 x.wait, .int .i64 x.tries] 49)).heap.size := by simp; omega
        have HX := Lib.hid hx
        have HZ := Lib.hid (HI.out.below ((Below.refl _ wr).alloc (Nat.le_refl _) (.cells #[.int .i64 x.block, .int .i64 x.due, .int .i64 x.wait, .int .i64 x.tries] 49)))
        have HLO := Lib.hid (fun g hg => (HI.out.ro.lt g hg).2)
        have HLA := Lib.hid (fun g hg => (HI.out.ra.lt g hg).2)
        have hle := HI.out.le
        obtain ⟨Aa, ca, hva⟩ := ownsRow_slice HI.out.ra
        subst hva
        clear hx hcs
        cases full
        · by_cases hd : now < x.due
          · go_wp2_with (at_builtin; refine wpList_app1n rfl _ _ 42 rfl w.heap.size 49 i0 _ 4 32 Try.underlying42 hi hz0 hz1 hz2 rfl _ _ _ rfl HZ.out.ro (wr.heap.size + 1) (by simp) #[.int .i64 x.block, .int .i64 x.due, .int .i64 x.wait, .int .i64 x.tries] 1 rfl rfl (four_one _ _ _ _) (by omega) (by omega) hsz ?_; rintro A2 c2 w2 hown2 hk2 - -)
            have HJ := Lib.hid (HZ.out.app x hown2 hk2)
            have HEJ := Lib.hid (rai_skip HX.out hd HE.out)
            clear hown2 hk2
            go_wp2
            go_roundw
            case rel => exact ⟨k + 1, _, _, _, _, by omega, by go_num, rfl, HJ, HEJ⟩
            case measure => simp [intOf]; omega
          · have hd' : x.due ≤ now := by omega
            clear hd
            go_wp2_with fail
            have hbk := Blk.new wr #[.int .i64 x.block, .int .i64 x.due, .int .i64 x.wait, .int .i64 x.tries] 49
            have hzb : wr.heap.size < (wr.alloc (.cells #[.int .i64 x.block, .int .i64 x.due, .int .i64 x.wait, .int .i64 x.tries] 49)).heap.size := by simp
            generalize (wr.alloc (.cells #[.int .i64 x.block, .int .i64 x.due, .int .i64 x.wait, .int .i64 x.tries] 49)) = wz at *
            obtain ⟨hb, hhb⟩ : ∃ hb, hb = wr.heap.size := ⟨_, rfl⟩
            rw [← hhb] at hs hbk hzb HLO HLA ⊢
            have HB := Lib.hid hbk
            obtain ⟨a0', a1', a2', a3'⟩ := blk4 hbk
            clear a0 a1 a2 a3 hbk hhb HI
            cases htc : touch aq x.block
            · have hnt : na = 0 ∨ ∃ q y, na = q + 1 ∧ aq[q]? = some y ∧ y.2 ≠ x.block := by
                unfold touch at htc
                have hnl := HZ.out.nal
                cases e : aq[aq.length - 1]? with
                | none => exact .inl (by have := List.getElem?_eq_none_iff.1 e; omega)
                | some y =>
                  rw [e] at htc
                  have := (List.getElem?_eq_some_iff.1 e).1
                  exact .inr ⟨aq.length - 1, y, by omega, e, by simpa using htc⟩
              have HTC := Lib.hid htc
              clear htc
              rcases hnt with rfl | ⟨q, y, rfl, hy, hyb⟩
              · skip
                by_cases hm : most ≤ 0
                · have HF := Lib.hid (rai_stop HX.out (fun t => askGo_full hd' HTC.out (by have := HZ.out.nal; omega)) HE.out)
                  have HZQ := Lib.hid (fun j : Nat => HZ.out.below (below_drewN (Below.refl _ wz) j))
                  go_wp2_with fail
                  go_quiet (fail)
                  have HZ1 := Lib.hid (HZQ.out nq)
                  have hsz1 : w.heap.size ≤ (wz.drewN nq).heap.size := hsz
                  obtain ⟨a0, a1, a2, a3⟩ := blk4 (HB.out.drewN nq)
                  have hsz := hsz1
                  generalize wz.drewN nq = wy at *
                  clear a0' a1' a2' a3'
                  go_wp2_with (at_builtin; refine wpList_app1n rfl _ _ 42 rfl w.heap.size 49 i0 _ 4 32 Try.underlying42 hi hz0 hz1 hz2 rfl _ _ _ rfl HZ1.out.ro wy.heap.size (by simp) #[.int .i64 x.block, .int .i64 x.due, .int .i64 x.wait, .int .i64 x.tries] 1 rfl rfl (four_one _ _ _ _) (by omega) (by omega) hsz ?_; rintro A2 c2 w2 hown2 hk2 - -)
                  have HJ := Lib.hid (HZ1.out.app x hown2 hk2)
                  have HEJ := Lib.hid (HF.out)
                  clear hown2 hk2
                  go_wp2
                  go_roundw
                  case rel => exact ⟨k + 1, _, _, _, _, by omega, by go_num, rfl, HJ, HEJ⟩
                  case measure => simp [intOf]; omega
                · have hm' : 0 < most := by omega
                  have HS := Lib.hid (fun t => askGo_new (now := now) (m := most) (lg := lg) (t := t) hd' HTC.out (by have := HZ.out.nal; omega))
                  have HZQ := Lib.hid (fun j : Nat => HZ.out.below (below_drewN (Below.refl _ wz) j))
                  clear hm
                  go_wp2_with fail
                  go_quiet (fail)
                  have HZ1 := Lib.hid (HZQ.out nq)
                  have HB1 := Lib.hid (HB.out.drewN nq)
                  obtain ⟨a0, a1, a2, a3⟩ := blk4 HB1.out
                  have hzq : hb < (wz.drewN nq).heap.size := hzb
                  generalize wz.drewN nq = wq at *
                  clear a0' a1' a2' a3' 
                  by_cases hw : 2 * x.wait ≤ lg
                  · have hmn : ask1 now lg x = ⟨x.block, now + x.wait, (2 * x.wait), x.tries + 1⟩ := by unfold ask1; rw [show min (2 * x.wait) lg = (2 * x.wait) by omega]
                    have HMN := Lib.hid hmn
                    have hw2 : 2 * x.wait ≤ lg := by omega
                    clear hw hmn
                    go_wp2_with (at_builtin; first
                      | (refine wpList_app1n rfl _ _ 33 rfl w.heap.size 36 j0 _ 2 16 Try.underlying33 hj hy0 hy1 hy2 rfl _ _ _ rfl HZ1.out.ra wq.heap.size (by simp) #[.int .i64 x.block, .int .i64 (x.block + 1)] 1 rfl rfl (by intro u hu; simp at hu; rcases hu with rfl | rfl <;> rfl) (by omega) (by omega) HZ1.out.bel.size ?_; rintro A3 c3 wy hown3 hk3 hno3 -
                         have HZ2 := Lib.hid (HZ1.out.ask (by omega) (x.block, x.block + 1) hown3 hk3)
                         have HB2 := Lib.hid (HB1.out.keep hk3 (fun e => by have := HLA.out hb e; omega))
                         have HLA2 := Lib.hid (fun g hg => (show g ≠ hb from (hno3 g hg).elim (fun h => by have := HLA.out g h; omega) (fun h => by omega)))
                         obtain ⟨e0, e1, e2, e3⟩ := blk4 HB2.out
                         have f0 := HB2.out.frozen 0
                         have f1 := HB2.out.frozen 1
                         have f2 := HB2.out.frozen 2
                         have f3 := HB2.out.frozen 3
                         have hby : hb < wy.heap.size := HB2.out.lt
                         have HZ4 := Lib.hid (HZ2.out.keep (set4_keep (fun k => k = hb) wy hb rfl (.int .i64 x.block) (.int .i64 (now + x.wait)) (.int .i64 (2 * x.wait)) (.int .i64 (x.tries + 1))) (fun g hg e => by have := HLO.out g hg; omega) (fun g hg e => HLA2.out g hg e) (fun g hg => by omega))
                         have hsz : w.heap.size ≤ (((((wy.setCell ⟨hb, 0, none⟩ (.int .i64 x.block)).setCell ⟨hb, 1, none⟩ (.int .i64 (now + x.wait))).setCell ⟨hb, 2, none⟩ (.int .i64 (2 * x.wait))).setCell ⟨hb, 3, none⟩ (.int .i64 (x.tries + 1)))).heap.size := HZ4.out.bel.size
                         clear hown3 hk3 hno3 a0 a1 a2 a3)
                      | (refine wpList_app1n rfl _ _ 42 rfl w.heap.size 49 i0 _ 4 32 Try.underlying42 hi hz0 hz1 hz2 rfl _ _ _ rfl HZ4.out.ro wy.heap.size (by simp) #[.int .i64 x.block, .int .i64 (now + x.wait), .int .i64 (2 * x.wait), .int .i64 (x.tries + 1)] 1 rfl rfl (four_one _ _ _ _) (by omega) (by omega) hsz ?_; rintro A2 c2 w2 hown2 hk2 - -))
                    have HJ := Lib.hid (HZ4.out.app (ask1 now lg x) (by rw [HMN.out]; exact hown2) hk2)
                    have HEJ := Lib.hid (rai_ask HX.out HS.out HE.out)
                    clear hown2 hk2
                    go_wp2
                    go_roundw
                    case rel => exact ⟨k + 1, _, _, _, _, by omega, by go_num, rfl, HJ, HEJ⟩
                    case measure => simp [intOf]; omega
                  · have hmn : ask1 now lg x = ⟨x.block, now + x.wait, lg, x.tries + 1⟩ := by unfold ask1; rw [show min (2 * x.wait) lg = lg by omega]
                    have HMN := Lib.hid hmn
                    have hw2 : lg < 2 * x.wait := by omega
                    clear hw hmn
                    go_wp2_with (at_builtin; first
                      | (refine wpList_app1n rfl _ _ 33 rfl w.heap.size 36 j0 _ 2 16 Try.underlying33 hj hy0 hy1 hy2 rfl _ _ _ rfl HZ1.out.ra wq.heap.size (by simp) #[.int .i64 x.block, .int .i64 (x.block + 1)] 1 rfl rfl (by intro u hu; simp at hu; rcases hu with rfl | rfl <;> rfl) (by omega) (by omega) HZ1.out.bel.size ?_; rintro A3 c3 wy hown3 hk3 hno3 -
                         have HZ2 := Lib.hid (HZ1.out.ask (by omega) (x.block, x.block + 1) hown3 hk3)
                         have HB2 := Lib.hid (HB1.out.keep hk3 (fun e => by have := HLA.out hb e; omega))
                         have HLA2 := Lib.hid (fun g hg => (show g ≠ hb from (hno3 g hg).elim (fun h => by have := HLA.out g h; omega) (fun h => by omega)))
                         obtain ⟨e0, e1, e2, e3⟩ := blk4 HB2.out
                         have f0 := HB2.out.frozen 0
                         have f1 := HB2.out.frozen 1
                         have f2 := HB2.out.frozen 2
                         have f3 := HB2.out.frozen 3
                         have hby : hb < wy.heap.size := HB2.out.lt
                         have HZ4 := Lib.hid (HZ2.out.keep (set4_keep (fun k => k = hb) wy hb rfl (.int .i64 x.block) (.int .i64 (now + x.wait)) (.int .i64 lg) (.int .i64 (x.tries + 1))) (fun g hg e => by have := HLO.out g hg; omega) (fun g hg e => HLA2.out g hg e) (fun g hg => by omega))
                         have hsz : w.heap.size ≤ (((((wy.setCell ⟨hb, 0, none⟩ (.int .i64 x.block)).setCell ⟨hb, 1, none⟩ (.int .i64 (now + x.wait))).setCell ⟨hb, 2, none⟩ (.int .i64 lg)).setCell ⟨hb, 3, none⟩ (.int .i64 (x.tries + 1)))).heap.size := HZ4.out.bel.size
                         clear hown3 hk3 hno3 a0 a1 a2 a3)
                      | (refine wpList_app1n rfl _ _ 42 rfl w.heap.size 49 i0 _ 4 32 Try.underlying42 hi hz0 hz1 hz2 rfl _ _ _ rfl HZ4.out.ro wy.heap.size (by simp) #[.int .i64 x.block, .int .i64 (now + x.wait), .int .i64 lg, .int .i64 (x.tries + 1)] 1 rfl rfl (four_one _ _ _ _) (by omega) (by omega) hsz ?_; rintro A2 c2 w2 hown2 hk2 - -))
                    have HJ := Lib.hid (HZ4.out.app (ask1 now lg x) (by rw [HMN.out]; exact hown2) hk2)
                    have HEJ := Lib.hid (rai_ask HX.out HS.out HE.out)
                    clear hown2 hk2
                    go_wp2
                    go_roundw
                    case rel => exact ⟨k + 1, _, _, _, _, by omega, by go_num, rfl, HJ, HEJ⟩
                    case measure => simp [intOf]; omega
              · skip
                have hrow := HZ.out.ra
                rcases hrow.2 with ⟨_, hz⟩ | ⟨g2, cap2, cur2, hv2, hbg2, hh2, -⟩
                · omega
                cases hv2
                have p1 := ownsRow_cell hrow (flatMap_at pairCells_len aq q y 1 _ hy rfl)
                have y1 : (y.2 == x.block) = false := by rw [beq_eq_false_iff_ne]; exact hyb
                clear hy hyb hh2 hrow
                by_cases hm : most ≤ (q : Int) + 1
                · have HF := Lib.hid (rai_stop HX.out (fun t => askGo_full hd' HTC.out (by have := HZ.out.nal; omega)) HE.out)
                  have HZQ := Lib.hid (fun j : Nat => HZ.out.below (below_drewN (Below.refl _ wz) j))
                  go_wp2_with fail
                  go_quiet (fail)
                  have HZ1 := Lib.hid (HZQ.out nq)
                  have hsz1 : w.heap.size ≤ (wz.drewN nq).heap.size := hsz
                  obtain ⟨a0, a1, a2, a3⟩ := blk4 (HB.out.drewN nq)
                  have hsz := hsz1
                  generalize wz.drewN nq = wy at *
                  clear a0' a1' a2' a3'
                  go_wp2_with (at_builtin; refine wpList_app1n rfl _ _ 42 rfl w.heap.size 49 i0 _ 4 32 Try.underlying42 hi hz0 hz1 hz2 rfl _ _ _ rfl HZ1.out.ro wy.heap.size (by simp) #[.int .i64 x.block, .int .i64 x.due, .int .i64 x.wait, .int .i64 x.tries] 1 rfl rfl (four_one _ _ _ _) (by omega) (by omega) hsz ?_; rintro A2 c2 w2 hown2 hk2 - -)
                  have HJ := Lib.hid (HZ1.out.app x hown2 hk2)
                  have HEJ := Lib.hid (HF.out)
                  clear hown2 hk2
                  go_wp2
                  go_roundw
                  case rel => exact ⟨k + 1, _, _, _, _, by omega, by go_num, rfl, HJ, HEJ⟩
                  case measure => simp [intOf]; omega
                · have hm' : (q : Int) + 1 < most := by omega
                  have HS := Lib.hid (fun t => askGo_new (now := now) (m := most) (lg := lg) (t := t) hd' HTC.out (by have := HZ.out.nal; omega))
                  have HZQ := Lib.hid (fun j : Nat => HZ.out.below (below_drewN (Below.refl _ wz) j))
                  clear hm
                  go_wp2_with fail
                  go_quiet (fail)
                  have HZ1 := Lib.hid (HZQ.out nq)
                  have HB1 := Lib.hid (HB.out.drewN nq)
                  obtain ⟨a0, a1, a2, a3⟩ := blk4 HB1.out
                  have hzq : hb < (wz.drewN nq).heap.size := hzb
                  generalize wz.drewN nq = wq at *
                  clear a0' a1' a2' a3' p1
                  by_cases hw : 2 * x.wait ≤ lg
                  · have hmn : ask1 now lg x = ⟨x.block, now + x.wait, (2 * x.wait), x.tries + 1⟩ := by unfold ask1; rw [show min (2 * x.wait) lg = (2 * x.wait) by omega]
                    have HMN := Lib.hid hmn
                    have hw2 : 2 * x.wait ≤ lg := by omega
                    clear hw hmn
                    go_wp2_with (at_builtin; first
                      | (refine wpList_app1n rfl _ _ 33 rfl w.heap.size 36 j0 _ 2 16 Try.underlying33 hj hy0 hy1 hy2 rfl _ _ _ rfl HZ1.out.ra wq.heap.size (by simp) #[.int .i64 x.block, .int .i64 (x.block + 1)] 1 rfl rfl (by intro u hu; simp at hu; rcases hu with rfl | rfl <;> rfl) (by omega) (by omega) HZ1.out.bel.size ?_; rintro A3 c3 wy hown3 hk3 hno3 -
                         have HZ2 := Lib.hid (HZ1.out.ask (by omega) (x.block, x.block + 1) hown3 hk3)
                         have HB2 := Lib.hid (HB1.out.keep hk3 (fun e => by have := HLA.out hb e; omega))
                         have HLA2 := Lib.hid (fun g hg => (show g ≠ hb from (hno3 g hg).elim (fun h => by have := HLA.out g h; omega) (fun h => by omega)))
                         obtain ⟨e0, e1, e2, e3⟩ := blk4 HB2.out
                         have f0 := HB2.out.frozen 0
                         have f1 := HB2.out.frozen 1
                         have f2 := HB2.out.frozen 2
                         have f3 := HB2.out.frozen 3
                         have hby : hb < wy.heap.size := HB2.out.lt
                         have HZ4 := Lib.hid (HZ2.out.keep (set4_keep (fun k => k = hb) wy hb rfl (.int .i64 x.block) (.int .i64 (now + x.wait)) (.int .i64 (2 * x.wait)) (.int .i64 (x.tries + 1))) (fun g hg e => by have := HLO.out g hg; omega) (fun g hg e => HLA2.out g hg e) (fun g hg => by omega))
                         have hsz : w.heap.size ≤ (((((wy.setCell ⟨hb, 0, none⟩ (.int .i64 x.block)).setCell ⟨hb, 1, none⟩ (.int .i64 (now + x.wait))).setCell ⟨hb, 2, none⟩ (.int .i64 (2 * x.wait))).setCell ⟨hb, 3, none⟩ (.int .i64 (x.tries + 1)))).heap.size := HZ4.out.bel.size
                         clear hown3 hk3 hno3 a0 a1 a2 a3)
                      | (refine wpList_app1n rfl _ _ 42 rfl w.heap.size 49 i0 _ 4 32 Try.underlying42 hi hz0 hz1 hz2 rfl _ _ _ rfl HZ4.out.ro wy.heap.size (by simp) #[.int .i64 x.block, .int .i64 (now + x.wait), .int .i64 (2 * x.wait), .int .i64 (x.tries + 1)] 1 rfl rfl (four_one _ _ _ _) (by omega) (by omega) hsz ?_; rintro A2 c2 w2 hown2 hk2 - -))
                    have HJ := Lib.hid (HZ4.out.app (ask1 now lg x) (by rw [HMN.out]; exact hown2) hk2)
                    have HEJ := Lib.hid (rai_ask HX.out HS.out HE.out)
                    clear hown2 hk2
                    go_wp2
                    go_roundw
                    case rel => exact ⟨k + 1, _, _, _, _, by omega, by go_num, rfl, HJ, HEJ⟩
                    case measure => simp [intOf]; omega
                  · have hmn : ask1 now lg x = ⟨x.block, now + x.wait, lg, x.tries + 1⟩ := by unfold ask1; rw [show min (2 * x.wait) lg = lg by omega]
                    have HMN := Lib.hid hmn
                    have hw2 : lg < 2 * x.wait := by omega
                    clear hw hmn
                    go_wp2_with (at_builtin; first
                      | (refine wpList_app1n rfl _ _ 33 rfl w.heap.size 36 j0 _ 2 16 Try.underlying33 hj hy0 hy1 hy2 rfl _ _ _ rfl HZ1.out.ra wq.heap.size (by simp) #[.int .i64 x.block, .int .i64 (x.block + 1)] 1 rfl rfl (by intro u hu; simp at hu; rcases hu with rfl | rfl <;> rfl) (by omega) (by omega) HZ1.out.bel.size ?_; rintro A3 c3 wy hown3 hk3 hno3 -
                         have HZ2 := Lib.hid (HZ1.out.ask (by omega) (x.block, x.block + 1) hown3 hk3)
                         have HB2 := Lib.hid (HB1.out.keep hk3 (fun e => by have := HLA.out hb e; omega))
                         have HLA2 := Lib.hid (fun g hg => (show g ≠ hb from (hno3 g hg).elim (fun h => by have := HLA.out g h; omega) (fun h => by omega)))
                         obtain ⟨e0, e1, e2, e3⟩ := blk4 HB2.out
                         have f0 := HB2.out.frozen 0
                         have f1 := HB2.out.frozen 1
                         have f2 := HB2.out.frozen 2
                         have f3 := HB2.out.frozen 3
                         have hby : hb < wy.heap.size := HB2.out.lt
                         have HZ4 := Lib.hid (HZ2.out.keep (set4_keep (fun k => k = hb) wy hb rfl (.int .i64 x.block) (.int .i64 (now + x.wait)) (.int .i64 lg) (.int .i64 (x.tries + 1))) (fun g hg e => by have := HLO.out g hg; omega) (fun g hg e => HLA2.out g hg e) (fun g hg => by omega))
                         have hsz : w.heap.size ≤ (((((wy.setCell ⟨hb, 0, none⟩ (.int .i64 x.block)).setCell ⟨hb, 1, none⟩ (.int .i64 (now + x.wait))).setCell ⟨hb, 2, none⟩ (.int .i64 lg)).setCell ⟨hb, 3, none⟩ (.int .i64 (x.tries + 1)))).heap.size := HZ4.out.bel.size
                         clear hown3 hk3 hno3 a0 a1 a2 a3)
                      | (refine wpList_app1n rfl _ _ 42 rfl w.heap.size 49 i0 _ 4 32 Try.underlying42 hi hz0 hz1 hz2 rfl _ _ _ rfl HZ4.out.ro wy.heap.size (by simp) #[.int .i64 x.block, .int .i64 (now + x.wait), .int .i64 lg, .int .i64 (x.tries + 1)] 1 rfl rfl (four_one _ _ _ _) (by omega) (by omega) hsz ?_; rintro A2 c2 w2 hown2 hk2 - -))
                    have HJ := Lib.hid (HZ4.out.app (ask1 now lg x) (by rw [HMN.out]; exact hown2) hk2)
                    have HEJ := Lib.hid (rai_ask HX.out HS.out HE.out)
                    clear hown2 hk2
                    go_wp2
                    go_roundw
                    case rel => exact ⟨k + 1, _, _, _, _, by omega, by go_num, rfl, HJ, HEJ⟩
                    case measure => simp [intOf]; omega
            · have HS := Lib.hid (fun t => askGo_touch (now := now) (m := most) (lg := lg) (t := t) hd' htc)
              obtain ⟨q, y, hq, hy, hyb⟩ : ∃ q y, na = q + 1 ∧ aq[q]? = some y ∧ y.2 = x.block := by
                unfold touch at htc
                have hnl := HZ.out.nal
                cases e : aq[aq.length - 1]? with
                | none => rw [e] at htc; cases htc
                | some y =>
                  rw [e] at htc
                  have := (List.getElem?_eq_some_iff.1 e).1
                  exact ⟨aq.length - 1, y, by omega, e, by simpa using htc⟩
              have hbm : bump aq = aq.set q (y.1, x.block + 1) := by unfold bump; rw [← HZ.out.nal, hq, Nat.add_sub_cancel, hy, ← hyb]
              subst hq
              have hrow := HZ.out.ra
              rcases hrow.2 with ⟨_, hz⟩ | ⟨g2, cap2, cur2, hv2, hbg2, hh2, -⟩
              · omega
              cases hv2
              have p1 := ownsRow_cell hrow (flatMap_at pairCells_len aq q y 1 _ hy rfl)
              have pf := ownsRow_frozen hrow (q * 2 + 1)
              rw [hyb] at p1
              have y1 : (x.block == x.block) = true := by simp
              have hg2 : g2 < hb := HLA.out g2 rfl
              have HBM := Lib.hid hbm
              have HY := Lib.hid hy
              have HZQ := Lib.hid (fun j : Nat => HZ.out.below (below_drewN (Below.refl _ wz) j))
              have hyc : pairCells y = [.int .i64 y.1, .int .i64 y.2] := rfl
              clear hbm hrow htc hh2 hyb hy hyc
              go_wp2_with fail
              go_quiet (fail)
              go_wp2_with fail
              go_region
              have HW := Lib.hid (HZ.out.bump HY.out HBM.out (nq + 1))
              have HB2 := Lib.hid ((HB.out.drewN (nq + 1)).setOther (p := ⟨g2, q * 2 + 1, none⟩) (show hb ≠ g2 by omega) (.int .i64 (x.block + 1)))
              have HLA2 := Lib.hid (fun g hg => (show g ≠ hb from by have := HLA.out g hg; omega))
              generalize (wz.drewN (nq + 1)).setCell ⟨g2, q * 2 + 1, none⟩ (.int .i64 (x.block + 1)) = wy at *
              obtain ⟨e0, e1, e2, e3⟩ := blk4 HB2.out
              have f0 := HB2.out.frozen 0
              have f1 := HB2.out.frozen 1
              have f2 := HB2.out.frozen 2
              have f3 := HB2.out.frozen 3
              have hby : hb < wy.heap.size := HB2.out.lt
              clear a0' a1' a2' a3' p1 pf hsz
              by_cases hw : 2 * x.wait ≤ lg
              · have hmn : ask1 now lg x = ⟨x.block, now + x.wait, (2 * x.wait), x.tries + 1⟩ := by unfold ask1; rw [show min (2 * x.wait) lg = (2 * x.wait) by omega]
                have HMN := Lib.hid hmn
                have hw2 : 2 * x.wait ≤ lg := by omega
                have HZ4 := Lib.hid (HW.out.keep (set4_keep (fun k => k = hb) wy hb rfl (.int .i64 x.block) (.int .i64 (now + x.wait)) (.int .i64 (2 * x.wait)) (.int .i64 (x.tries + 1))) (fun g hg e => by have := HLO.out g hg; omega) (fun g hg e => HLA2.out g hg e) (fun g hg => by omega))
                have hsz : w.heap.size ≤ (((((wy.setCell ⟨hb, 0, none⟩ (.int .i64 x.block)).setCell ⟨hb, 1, none⟩ (.int .i64 (now + x.wait))).setCell ⟨hb, 2, none⟩ (.int .i64 (2 * x.wait))).setCell ⟨hb, 3, none⟩ (.int .i64 (x.tries + 1)))).heap.size := HZ4.out.bel.size
                clear hw hmn
                go_wp2_with (at_builtin; refine wpList_app1n rfl _ _ 42 rfl w.heap.size 49 i0 _ 4 32 Try.underlying42 hi hz0 hz1 hz2 rfl _ _ _ rfl HZ4.out.ro wy.heap.size (by simp) #[.int .i64 x.block, .int .i64 (now + x.wait), .int .i64 (2 * x.wait), .int .i64 (x.tries + 1)] 1 rfl rfl (four_one _ _ _ _) (by omega) (by omega) hsz ?_; rintro A2 c2 w2 hown2 hk2 - -)
                have HJ := Lib.hid (HZ4.out.app (ask1 now lg x) (by rw [HMN.out]; exact hown2) hk2)
                have HEJ := Lib.hid (rai_ask HX.out HS.out HE.out)
                clear hown2 hk2
                go_wp2
                go_roundw
                case rel => exact ⟨k + 1, _, _, _, _, by omega, by go_num, rfl, HJ, HEJ⟩
                case measure => simp [intOf]; omega
              · have hmn : ask1 now lg x = ⟨x.block, now + x.wait, lg, x.tries + 1⟩ := by unfold ask1; rw [show min (2 * x.wait) lg = lg by omega]
                have HMN := Lib.hid hmn
                have hw2 : lg < 2 * x.wait := by omega
                have HZ4 := Lib.hid (HW.out.keep (set4_keep (fun k => k = hb) wy hb rfl (.int .i64 x.block) (.int .i64 (now + x.wait)) (.int .i64 lg) (.int .i64 (x.tries + 1))) (fun g hg e => by have := HLO.out g hg; omega) (fun g hg e => HLA2.out g hg e) (fun g hg => by omega))
                have hsz : w.heap.size ≤ (((((wy.setCell ⟨hb, 0, none⟩ (.int .i64 x.block)).setCell ⟨hb, 1, none⟩ (.int .i64 (now + x.wait))).setCell ⟨hb, 2, none⟩ (.int .i64 lg)).setCell ⟨hb, 3, none⟩ (.int .i64 (x.tries + 1)))).heap.size := HZ4.out.bel.size
                clear hw hmn
                go_wp2_with (at_builtin; refine wpList_app1n rfl _ _ 42 rfl w.heap.size 49 i0 _ 4 32 Try.underlying42 hi hz0 hz1 hz2 rfl _ _ _ rfl HZ4.out.ro wy.heap.size (by simp) #[.int .i64 x.block, .int .i64 (now + x.wait), .int .i64 lg, .int .i64 (x.tries + 1)] 1 rfl rfl (four_one _ _ _ _) (by omega) (by omega) hsz ?_; rintro A2 c2 w2 hown2 hk2 - -)
                have HJ := Lib.hid (HZ4.out.app (ask1 now lg x) (by rw [HMN.out]; exact hown2) hk2)
                have HEJ := Lib.hid (rai_ask HX.out HS.out HE.out)
                clear hown2 hk2
                go_wp2
                go_roundw
                case rel => exact ⟨k + 1, _, _, _, _, by omega, by go_num, rfl, HJ, HEJ⟩
                case measure => simp [intOf]; omega
        · have hF := rai_full HX.out HE.out
          have HF := Lib.hid hF
          clear hF
          by_cases hd : x.due ≤ now
          · go_wp2_with (at_builtin; refine wpList_app1n rfl _ _ 42 rfl w.heap.size 49 i0 _ 4 32 Try.underlying42 hi hz0 hz1 hz2 rfl _ _ _ rfl HZ.out.ro (wr.heap.size + 1) (by simp) #[.int .i64 x.block, .int .i64 x.due, .int .i64 x.wait, .int .i64 x.tries] 1 rfl rfl (four_one _ _ _ _) (by omega) (by omega) hsz ?_; rintro A2 c2 w2 hown2 hk2 - -)
            have HJ := Lib.hid (HZ.out.app x hown2 hk2)
            have HEJ := Lib.hid (HF.out)
            clear hown2 hk2
            go_wp2
            go_roundw
            case rel => exact ⟨k + 1, _, _, _, _, by omega, by go_num, rfl, HJ, HEJ⟩
            case measure => simp [intOf]; omega
          · have hd' : now < x.due := by omega
            clear hd
            go_wp2_with (at_builtin; refine wpList_app1n rfl _ _ 42 rfl w.heap.size 49 i0 _ 4 32 Try.underlying42 hi hz0 hz1 hz2 rfl _ _ _ rfl HZ.out.ro (wr.heap.size + 1) (by simp) #[.int .i64 x.block, .int .i64 x.due, .int .i64 x.wait, .int .i64 x.tries] 1 rfl rfl (four_one _ _ _ _) (by omega) (by omega) hsz ?_; rintro A2 c2 w2 hown2 hk2 - -)
            have HJ := Lib.hid (HZ.out.app x hown2 hk2)
            have HEJ := Lib.hid (HF.out)
            clear hown2 hk2
            go_wp2
            go_roundw
            case rel => exact ⟨k + 1, _, _, _, _, by omega, by go_num, rfl, HJ, HEJ⟩
            case measure => simp [intOf]; omega
      · obtain rfl : k = n := by omega
        have he := rai_end (by rw [← HL.out]; omega) HE.out
        have HJ := HI.out
        rw [HRR.out] at he
        have HEQ := Lib.hid he
        have HJ2 := Lib.hid HJ
        clear he HJ
        go_wp2
        go_ret2
        exact ⟨_, _, na, rfl, by rw [HEQ.out]; exact HJ2.out⟩
end Go.Proofs.Ytkgngmmlfoiajaa
