import Derived.Test.YtlhocjimghcmjaaDraws4
namespace Go.Proofs.Ytlhocjimghcmjaa
open Go.RowKit
set_option linter.unusedVariables false
set_option linter.unusedSimpArgs false

set_option maxRecDepth 100000 in
set_option maxHeartbeats 1000000 in
theorem copy_any (b : Nat) (F : Nat → Prop) (l : List Int) (t : Int) (w : World) (h : DrawsAt w F b l t) (hl : l.length ≤ 1000) :
    Calls Try.prog 13 #[.pointer (some ⟨b, 0, none⟩)] w fun e w' => ∃ b', e = .returned (.pointer (some ⟨b', 0, none⟩)) ∧ DrawsAt w' (Btw w.heap.size w'.heap.size) b' l t ∧ Below w.heap.size w w' := by
  obtain ⟨v, h1, h2, -, -⟩ := h
  obtain ⟨A, c, rfl⟩ := ownsRow_slice h2
  have h0 := h1.cell 0 (v := .slice A l.length c) (by rfl)
  have h3 := h1.cell 1 (v := .int .i64 t) (by rfl)
  have hlt := h1.lt
  have hn := new_any _ l w (Reads.of_owns h2) (by omega)
  clear h1 h2
  go_enter Try.func13, Try.ntmps13
  go_wp2_with fail
  refine hn.mono ?_
  rintro e w1 ⟨b', rfl, hd, hb⟩
  have h3' := (hb.cell (p := ⟨b, 1, none⟩) hlt).trans h3
  have hd' := hd.set t
  obtain ⟨v', h5, -, hF, -⟩ := hd
  have h6 := h5.cell 1 (v := .int .i64 0) (by rfl)
  have f6 := h5.frozen 1
  have hb2 : Below w.heap.size w (w1.setCell ⟨b', 1, none⟩ (.int .i64 t)) := hb.setCell hF.1 _
  have hsz : (w1.setCell ⟨b', 1, none⟩ (.int .i64 t)).heap.size = w1.heap.size := by simp [World.setCell]
  have HD := Lib.hid hd'
  have HS := Lib.hid hsz
  clear hn hd' h5 hsz hF
  go_wp2_with fail
  go_region_held3 (fun _ => True) (trivial)
    (first
      | (go_at_call 18; refine (load64 _ t _ ?_ rfl).mono ?_; (simp [*]); rintro e w2 ⟨rfl, rfl⟩)
      | (go_at_call 20; refine (store64 _ (.int .i64 0) t _ ?_ ?_ rfl).mono ?_; (simp [*]); (simp [*]); rintro e w2 ⟨rfl, rfl⟩))
  all_goals
    go_wp2
    go_ret
    refine ⟨b', rfl, ?_, hb2.drew⟩
    rw [show (w1.setCell ⟨b', 1, none⟩ (.int .i64 t)).drew.heap.size = w1.heap.size from HS.out]
    exact (Hid.out HD).drewN 1

set_option maxRecDepth 100000 in
set_option maxHeartbeats 2000000 in
theorem drawsCopies_any (v : Value) (l : List Int) (n m : Int) (w : World) (h : Reads w 1 v l.length (l.map (Value.int .u32))) (hu : U32 l) (hl : l.length * 4 ≤ 140737488351232) :
    Calls Try.prog 5 #[v, .int .i64 n, .int .i64 m] w fun e w' => e = .returned (.bool true) ∧ Below w.heap.size w w' := by
  have ha := awake10 w
  obtain ⟨A, c, rfl, -⟩ := h.val
  obtain ⟨i0, hi, hz0, hz1, hz2⟩ := info_parts info_u32
  by_cases g : 60 < l.length ∨ n < 0 ∨ 100 < n ∨ m < 0 ∨ 100 < m
  · rcases (by omega : 60 < l.length ∨ (l.length ≤ 60 ∧ n < 0) ∨ (l.length ≤ 60 ∧ 0 ≤ n ∧ 100 < n) ∨ (l.length ≤ 60 ∧ 0 ≤ n ∧ n ≤ 100 ∧ m < 0) ∨ (l.length ≤ 60 ∧ 0 ≤ n ∧ n ≤ 100 ∧ 0 ≤ m ∧ 100 < m)) with
      g1 | ⟨g1, g2⟩ | ⟨g1, g2, g3⟩ | ⟨g1, g2, g3, g4⟩ | ⟨g1, g2, g3, g4, g5⟩
    all_goals
      clear g
      go_enter Try.func5, Try.ntmps5
      go_wp2_with (go_at_call 7; refine ha.mono ?_; rintro e w1 ⟨rfl, hb⟩)
      go_ret
      exact ⟨rfl, hb⟩
  have g1 : l.length ≤ 60 := by omega
  have g2 : 0 ≤ n := by omega
  have g3 : n ≤ 100 := by omega
  have g4 : 0 ≤ m := by omega
  have g5 : m ≤ 100 := by omega
  clear ha g
  obtain ⟨n, rfl⟩ := Int.eq_ofNat_of_zero_le g2
  obtain ⟨m, rfl⟩ := Int.eq_ofNat_of_zero_le g4
  have HR := Lib.hid h
  clear h
  go_enter Try.func5, Try.ntmps5
  go_wp2_with (at_builtin; refine wpList_appR rfl _ _ 22 rfl w.heap.size 27 i0 (.int .u32 0) 1 4 Try.underlying22 hi hz0 hz1 hz2 rfl (.slice (some ⟨w.heap.size, 0, none⟩) 0 0) 0 _ rfl (World.ownsRow_made w #[] 0 (Nat.le_refl _) (Nat.zero_le _) rfl) _ l.length (l.map (Value.int .u32)) rfl (by first | exact HR.out | exact HR.out.alloc _) (by intro u hu; obtain ⟨x, -, rfl⟩ := List.mem_map.1 hu; rfl) (by unfold maxLen; omega) (by omega) (by simp) ?_; rintro A2 c2 w2 hown2 hk2 - -; rw [Nat.zero_add] at *)
  have hb2 : Below w.heap.size w w2 := bkeep ((Below.refl _ w).alloc (Nat.le_refl _) _) hk2 (Nat.le_refl _) (fun k hk => by simp [Value.ownBlock] at hk; omega)
  have ho2 : w2.ownsRow w.heap.size 27 1 (.slice A2 l.length c2) l.length (l.map (Value.int .u32)) := by simpa using hown2
  clear hk2 hown2
  go_wp2_with fail
  refine (new_any _ l w2 (Reads.of_owns ho2) hl).mono ?_
  rintro e w3 ⟨b, rfl, hd3, hb3⟩
  have ho3 := ownsRow_keep ho2 (Keep.none hb3) (fun _ _ => id)
  have q3 := bmore hb2 hb3 hb2.size
  have s3 := hb3.size
  have ol := ho2.lt
  clear ho2 hb3
  -- the first ones are told
  go_wp2_with fail
  go_loopw [42] (fun i wr => ∃ k : Nat, k ≤ n ∧ i = .int .i64 k ∧ Hid (DrawsAt wr (Btw w2.heap.size w3.heap.size) b l k) ∧ Hid (wr.ownsRow w.heap.size 27 1 (.slice A2 l.length c2) l.length (l.map (Value.int .u32))) ∧ Below w.heap.size w wr ∧ w3.heap.size ≤ wr.heap.size) (fun i _ => n - (intOf i).toNat)
  case atStart => exact ⟨0, by omega, rfl, hd3, ho3, q3, Nat.le_refl _⟩
  case round =>
    obtain ⟨k, hk, rfl, hdr, hor, hb, hs⟩ := hrel
    by_cases hlt : k < n
    · clear hd3 ho3 q3
      go_wp2_with fail
      refine (next_any b _ l k _ hdr.out (by omega) (by omega)).mono ?_
      rintro e w5 ⟨rfl, hd5, k5⟩
      go_wp2_with fail
      go_roundw
      case rel => exact ⟨k + 1, by omega, by go_num, hd5, ownsRow_keep hor.out k5 (fun g hg hF => by have := (ol g hg).2; have := hF.1; omega), bkeep hb k5 (Nat.le_refl _) (fun k hk => by have := hk.1; have := hb2.size; omega), Nat.le_trans hs k5.size⟩
      case measure => simp [intOf]; omega
    · obtain rfl : k = n := by omega
      clear hd3 ho3 q3
      go_wp2_with fail
      refine (copy_any b _ l k _ hdr.out (by omega)).mono ?_
      rintro e w4 ⟨b', rfl, hc4, hb4⟩
      have hd4 := (Hid.out hdr).keep (Keep.none hb4) (fun _ _ h => h)
      have ho4 := ownsRow_keep (Hid.out hor) (Keep.none hb4) (fun _ _ => id)
      have q4 := bmore hb hb4 hb.size
      have s4 := hb4.size
      clear hdr hor hb4
      have s40 : w3.heap.size ≤ wr.heap.size := hs
      have s41 : w.heap.size ≤ w2.heap.size := hb2.size
      clear hb hs
      obtain ⟨w0, rfl⟩ : ∃ w0 : World, w0 = wr := ⟨_, rfl⟩
      -- the list is turned
      go_wp2_with fail
      go_loopw [10, 53] (fun _ i wr => ∃ (q : Nat) (ys : List Int), q ≤ l.length ∧ i = .int .i64 q ∧ ys.length = l.length ∧ Hid (wr.ownsRow w.heap.size 27 1 (.slice A2 l.length c2) l.length (ys.map (Value.int .u32))) ∧ Hid (DrawsAt wr (Btw w2.heap.size w3.heap.size) b l k) ∧ Hid (DrawsAt wr (Btw w0.heap.size w4.heap.size) b' l k) ∧ Below w.heap.size w wr ∧ w4.heap.size ≤ wr.heap.size) (fun _ i _ => l.length - (intOf i).toNat)
      case atStart => exact ⟨0, l, by omega, rfl, rfl, ho4, hd4, hc4, q4, Nat.le_refl _⟩
      case round =>
        clear hd4 hc4 ho4 q4
        obtain ⟨q, ys, hq, rfl, hys, hor, hdr, hcr, hb, hs⟩ := hrel
        by_cases hlt2 : q < l.length
        · obtain ⟨g, o, c', he, -⟩ := (Reads.of_owns (Hid.out hor)).at q (.int .u32 (ys.getD q 0)) (by simp [hys, hlt2])
          rcases hor.out.2 with ⟨hv, _⟩ | ⟨g', cap, cur, hv, _⟩
          · rw [he] at hv; cases hv
          cases hv
          have hc := ownsRow_cell (Hid.out hor) (j := q) (u := .int .u32 (ys.getD q 0)) (by simp [hys, hlt2])
          have hf := ownsRow_frozen (Hid.out hor) q
          have hg := ol g' rfl
          clear he
          have hkp : ∀ u, Keep (fun k => k = g') wr (wr.setCell ⟨g', q, none⟩ u) := fun u => (Keep.refl (fun k => k = g') wr).setCell (p := ⟨g', q, none⟩) (Or.inl rfl) u
          have HK := Lib.hid hkp
          clear hkp
          go_wp2_with fail
          go_roundw
          case rel =>
            refine ⟨q + 1, ys.set q ((ys[q] + 1) % 4294967296), by omega, by go_num, by simpa using hys, ?_, (Hid.out hdr).keep (HK.out _) (fun k hk e => by have := hk.1; omega), (Hid.out hcr).keep (HK.out _) (fun k hk e => by have := hk.1; omega), bkeep hb (HK.out _) (Nat.le_refl _) (fun k hk => by omega), Nat.le_trans hs (HK.out _).size⟩
            show World.ownsRow ..
            rw [List.map_set]
            exact ownsRow_set hor.out (by simpa [hys] using hlt2) _
          case measure => simp [intOf]; omega
        · obtain rfl : q = l.length := by omega
          have h6 := Reads.below HR.out hb
          have hall := all_any _ l (k + m) wr h6 (by omega) (by omega) hu
          rw [show ((k + m : Nat) : Int) = (k : Int) + (m : Int) by omega] at hall
          clear h6
          go_wp2_with fail
          refine hall.mono ?_
          rintro e w5 ⟨A5, c5, rfl, ho5, hb5⟩
          have hd5 := (Hid.out hdr).keep (Keep.none hb5) (fun _ _ h => h)
          have hc5 := (Hid.out hcr).keep (Keep.none hb5) (fun _ _ h => h)
          have q5 := bmore hb hb5 hb.size
          have s5 := hb5.size
          have s50 : w4.heap.size ≤ wr.heap.size := hs
          have s51 : w.heap.size ≤ wr.heap.size := hb.size
          clear hall hdr hcr hor hb hb5 hs
          obtain ⟨w6, rfl⟩ : ∃ w6 : World, w6 = wr := ⟨_, rfl⟩
          -- the copy goes on
          go_wp2_with fail
          go_loopw [12, 69] (fun _ i wr => ∃ q : Nat, q ≤ m ∧ i = .int .i64 q ∧ Hid (wr.ownsRow w6.heap.size 27 1 (.slice A5 (k + m) c5) (k + m) ((allD l (k + m)).map (Value.int .u32))) ∧ Hid (DrawsAt wr (Btw w2.heap.size w3.heap.size) b l k) ∧ Hid (DrawsAt wr (Btw w0.heap.size w4.heap.size) b' l (k + q : Nat)) ∧ Below w.heap.size w wr ∧ w4.heap.size ≤ wr.heap.size) (fun _ i _ => m - (intOf i).toNat)
          case atStart => exact ⟨0, by omega, rfl, ho5, hd5, hc5, q5, by omega⟩
          case round =>
            clear hd5 hc5 ho5 q5
            obtain ⟨q, hq, rfl, hor, hdr, hcr, hb, hs⟩ := hrel
            by_cases hlt3 : q < m
            · obtain ⟨g, o, c', he, hc⟩ := (Reads.of_owns (Hid.out hor)).at (k + q) (.int .u32 (drawAt l (k + q))) (by simp [allD, hlt3])
              cases he
              have hnx := next_any b' _ l (k + q) wr.drew (hcr.out.keep (S := fun _ => False) (Keep.refl _ _).drew (fun _ _ h => h)) (by omega) (by omega)
              have HNX := Lib.hid hnx
              have hg := hor.out.lt g rfl
              have hgn : ¬ Btw w0.heap.size w4.heap.size g := fun h => by have := h.2; omega
              have HG : Hid (g < wr.drew.heap.size ∧ ¬ Btw w0.heap.size w4.heap.size g) := ⟨by simpa using hg.2, hgn⟩
              have HC := Lib.hid hc
              clear hnx hg hgn
              go_wp2_with fail
              have e1 : (0 : Int) ≤ (k : Int) + (q : Int) := by omega
              have e2 : (k : Int) + (q : Int) < (k : Int) + (m : Int) := by omega
              have e3 : IntKind.i64.wrap ((k : Int) + (q : Int)) = (k : Int) + (q : Int) := IntWalk.i64_in _ (by omega)
              have e4 : ((k : Int) + (q : Int)).toNat = k + q := by omega
              go_region_held3 (fun w' => w'.cell? ⟨g, o + (k + q), none⟩ = some (.int .u32 (drawAt l (k + q)))) (first | assumption | go_keep)
                (first
                  | (go_at_call 12; refine HNX.out.mono ?_; rintro e w7 ⟨rfl, hd7, k7⟩; have hc7 := (k7.cell (p := ⟨g, o + (k + q), none⟩) HG.out.1 HG.out.2).trans HC.out))
              clear e3 e4
              have k7' : Keep (Btw w0.heap.size w4.heap.size) wr w7 := ((Keep.refl (Btw w0.heap.size w4.heap.size) wr).drew).trans k7 (fun _ _ h => h)
              go_wp2_with fail
              go_roundw
              case rel => exact ⟨q + 1, by omega, by go_num, ownsRow_keep hor.out k7' (fun g hg hF => by have := (hor.out.lt g hg).1; have := hF.2; omega), (Hid.out hdr).keep k7' (fun k hk hF => by have := hF.1; have := hk.2; omega), hd7, bkeep hb k7' (Nat.le_refl _) (fun k hk => by have := hk.1; omega), Nat.le_trans hs k7'.size⟩
              case measure => simp [intOf]; omega
            · obtain rfl : q = m := by omega
              have hor5 := Hid.out hor
              have hdr5 := Hid.out hdr
              have hcr5 := Hid.out hcr
              have s60 : w4.heap.size ≤ wr.heap.size := hs
              have s61 := hor5.lt
              clear hor hdr hcr hs
              obtain ⟨w8, rfl⟩ : ∃ w8 : World, w8 = wr := ⟨_, rfl⟩
              -- the first one goes on
              go_wp2_with fail
              go_loopw [13, 83] (fun _ i wr => ∃ p : Nat, p ≤ q ∧ i = .int .i64 p ∧ Hid (wr.ownsRow w6.heap.size 27 1 (.slice A5 (k + q) c5) (k + q) ((allD l (k + q)).map (Value.int .u32))) ∧ Hid (DrawsAt wr (Btw w2.heap.size w3.heap.size) b l (k + p : Nat)) ∧ Hid (DrawsAt wr (Btw w0.heap.size w4.heap.size) b' l (k + q : Nat)) ∧ Below w.heap.size w wr ∧ w4.heap.size ≤ wr.heap.size) (fun _ i _ => q - (intOf i).toNat)
              case atStart => exact ⟨0, by omega, rfl, hor5, hdr5, hcr5, hb, s60⟩
              case round =>
                clear hor5 hdr5 hcr5 hb
                obtain ⟨p, hp, rfl, hor, hdr, hcr, hb, hs⟩ := hrel
                by_cases hlt4 : p < q
                · obtain ⟨g, o, c', he, hc⟩ := (Reads.of_owns (Hid.out hor)).at (k + p) (.int .u32 (drawAt l (k + p))) (by simp [allD, hlt4])
                  cases he
                  have hnx := next_any b _ l (k + p) wr.drew (hdr.out.keep (S := fun _ => False) (Keep.refl _ _).drew (fun _ _ h => h)) (by omega) (by omega)
                  have HNX := Lib.hid hnx
                  have hg := hor.out.lt g rfl
                  have hgn : ¬ Btw w2.heap.size w3.heap.size g := fun h => by have := h.2; omega
                  have HG : Hid (g < wr.drew.heap.size ∧ ¬ Btw w2.heap.size w3.heap.size g) := ⟨by simpa using hg.2, hgn⟩
                  have HC := Lib.hid hc
                  clear hnx hg hgn
                  go_wp2_with fail
                  have e1 : (0 : Int) ≤ (k : Int) + (p : Int) := by omega
                  have e2 : (k : Int) + (p : Int) < (k : Int) + (q : Int) := by omega
                  have e3 : IntKind.i64.wrap ((k : Int) + (p : Int)) = (k : Int) + (p : Int) := IntWalk.i64_in _ (by omega)
                  have e4 : ((k : Int) + (p : Int)).toNat = k + p := by omega
                  go_region_held3 (fun w' => w'.cell? ⟨g, o + (k + p), none⟩ = some (.int .u32 (drawAt l (k + p)))) (first | assumption | go_keep)
                    (first
                      | (go_at_call 12; refine HNX.out.mono ?_; rintro e w7 ⟨rfl, hd7, k7⟩; have hc7 := (k7.cell (p := ⟨g, o + (k + p), none⟩) HG.out.1 HG.out.2).trans HC.out))
                  clear e3 e4
                  have k7' : Keep (Btw w2.heap.size w3.heap.size) wr w7 := ((Keep.refl (Btw w2.heap.size w3.heap.size) wr).drew).trans k7 (fun _ _ h => h)
                  go_wp2_with fail
                  go_roundw
                  case rel => exact ⟨p + 1, by omega, by go_num, ownsRow_keep hor.out k7' (fun g hg hF => by have := (hor.out.lt g hg).1; have := hF.2; omega), hd7, (Hid.out hcr).keep k7' (fun k hk hF => by have := hF.2; have := hk.1; omega), bkeep hb k7' (Nat.le_refl _) (fun k hk => by have := hk.1; omega), Nat.le_trans hs k7'.size⟩
                  case measure => simp [intOf]; omega
                · obtain rfl : p = q := by omega
                  go_wp2_with fail
                  refine (told_any b _ l _ _ hdr.out).mono ?_
                  rintro e w9 ⟨rfl, rfl⟩
                  go_wp2_with fail
                  refine (told_any b' _ l _ _ hcr.out).mono ?_
                  rintro e w9 ⟨rfl, rfl⟩
                  go_wp2_with fail
                  refine (awake10 _).mono ?_
                  rintro e w5 ⟨rfl, hb5⟩
                  go_wp2
                  go_ret
                  exact ⟨rfl, bmore hb hb5 hb.size⟩
end Go.Proofs.Ytlhocjimghcmjaa
