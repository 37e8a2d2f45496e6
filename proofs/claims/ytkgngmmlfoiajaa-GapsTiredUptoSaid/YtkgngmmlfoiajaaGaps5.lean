/- gaps: Miss, Tired, Copy. -/
import Derived.Test.YtkgngmmlfoiajaaGaps4
import Derived.Test.YtkgngmmlfoiajaaApp2
import Derived.Deep.RegionHeld3
import Derived.Deep.RegionLaw
namespace Go.Proofs.Ytkgngmmlfoiajaa
open Go.RowKit
set_option linter.unusedVariables false
set_option linter.unusedSimpArgs false

theorem Chg.after {w w1 w2 : World} {b : Nat} {v v1 : Value} {l2 : List Hole} {f lg : Int} (hv : ∀ g, v1.ownBlock = some g → v.ownBlock = some g ∨ w.heap.size ≤ g) (hk : Keep (fun k => k = b ∨ v.ownBlock = some k) w w1) (h2 : Chg w1 w2 b v1 l2 f lg) : Chg w w2 b v l2 f lg := by
  obtain ⟨v2, g2, o2, k2⟩ := h2
  refine ⟨v2, g2, fun g hg => (o2 g hg).elim (hv g) (fun h => .inr (Nat.le_trans hk.size h)), hk.trans k2 fun k hlt h => ?_⟩
  rcases h with h | h
  · exact .inl h
  · exact (hv k h).elim .inr (fun h => by omega)

theorem miss_no (b : Nat) (a B due : Int) (w : World) (h : a < 0 ∨ 16384 < B ∨ B < a ∨ inT due = false) :
    Calls Try.prog 8 #[.pointer (some ⟨b, 0, none⟩), .int .i64 a, .int .i64 B, .int .i64 due] w fun e w' => e = .returned (.tuple #[.int .i64 0, .int .i64 11]) ∧ w = w' := by
  have HT := Lib.hid (time_any due w)
  rcases (by
    by_cases g1 : a < 0
    · exact .inl g1
    by_cases g2 : 16384 < B
    · exact .inr (.inl ⟨by omega, g2⟩)
    by_cases g3 : B < a
    · exact .inr (.inr (.inl ⟨by omega, by omega, g3⟩))
    exact .inr (.inr (.inr ⟨by omega, by omega, by omega, (((h.resolve_left g1).resolve_left g2).resolve_left g3)⟩)) : a < 0 ∨ (0 ≤ a ∧ 16384 < B) ∨ (0 ≤ a ∧ B ≤ 16384 ∧ B < a) ∨ (0 ≤ a ∧ B ≤ 16384 ∧ a ≤ B ∧ inT due = false)) with g1 | ⟨g1, g2⟩ | ⟨g1, g2, g3⟩ | ⟨g1, g2, g3, g4⟩
  · clear h
    go_enter Try.func8, Try.ntmps8
    go_wp2
    go_ret2
    exact ⟨rfl, rfl⟩
  · clear h
    go_enter Try.func8, Try.ntmps8
    go_wp2
    go_ret2
    exact ⟨rfl, rfl⟩
  · clear h
    go_enter Try.func8, Try.ntmps8
    go_wp2
    go_ret2
    exact ⟨rfl, rfl⟩
  · clear h
    rw [g4] at HT
    clear g4
    go_enter Try.func8, Try.ntmps8
    go_wp2_with fail
    refine HT.out.mono ?_
    rintro e w' ⟨rfl, rfl⟩
    go_wp2
    go_ret2
    exact ⟨rfl, rfl⟩

set_option maxRecDepth 100000 in
set_option maxHeartbeats 2000000 in
theorem miss_ok (K b : Nat) (v : Value) (l : List Hole) (f lg a B due : Int) (w : World) (h : GpAt w b v l f lg) (hr : Rl K l) (hn : l.length ≤ 50000) (ha : 0 ≤ a) (hab : a ≤ B) (hB : B ≤ 16384) (hd : inT due = true) (hf1 : 1 ≤ f) (hf2 : f ≤ 1048576) :
    Calls Try.prog 8 #[.pointer (some ⟨b, 0, none⟩), .int .i64 a, .int .i64 B, .int .i64 due] w fun e w' => e = .returned (.tuple #[.int .i64 (missN l a due f (B - a).toNat).2, .int .i64 0]) ∧ Chg w w' b v (missN l a due f (B - a).toNat).1 f lg := by
  have HT := Lib.hid (time_any due w)
  rw [hd] at HT
  obtain ⟨hd1, hd2⟩ := inT_iff.1 hd
  have HMR : Hid (∀ k : Nat, a + k ≤ B → Rl K (missN l a due f k).1 ∧ (missN l a due f k).1.length ≤ l.length + k ∧ (missN l a due f k).2 ≤ k) := fun k hk => missN_rl hr ha hd1 hd2 hf1 hf2 (by omega)
  have H : Hid (GpAt w b v l f lg) := h
  clear h hr hd
  obtain ⟨m, hm⟩ : ∃ m : Nat, m = (B - a).toNat := ⟨_, rfl⟩
  rw [← hm]
  have hmB : a + (m : Int) = B := by omega
  have HMB := Lib.hid hmB
  clear hm hmB
  go_enter Try.func8, Try.ntmps8
  go_wp2_with fail
  refine HT.out.mono ?_
  rintro e w' ⟨rfl, rfl⟩
  clear HT
  go_wp2
  go_loopw [10, 11, 12, 13] (fun n i _ _ wr => ∃ (k : Nat) (x : Int) (c : Nat), x ≤ B ∧ a ≤ x ∧ Hid (x = a + k) ∧ Hid (c = (missN l a due f k).2) ∧ i = .int .i64 x ∧ n = .int .i64 c ∧ Hid (Chg w wr b v (missN l a due f k).1 f lg)) (fun _ i _ _ _ => (B - intOf i).toNat)
  case atStart => exact ⟨0, a, 0, hab, Int.le_refl _, Lib.hid (by simp), Lib.hid rfl, rfl, rfl, Lib.hid ⟨v, H.out, fun g hg => .inl hg, Keep.refl _ _⟩⟩
  case round =>
    obtain ⟨k, x, c, hxB, hax, HX, HC, rfl, rfl, HG⟩ := hrel
    by_cases hlt : x < B
    · obtain ⟨hrl, hlen, hc⟩ := HMR.out k (by have := HX.out; omega)
      obtain ⟨v1, hg1, ho1, hk1⟩ := HG.out
      have hkB : k ≤ 16384 := by have := HX.out; omega
      have hsn : missN l a due f (k + 1) = if has (missN l a due f k).1 x then missN l a due f k else (ins ⟨x, due, f, 0⟩ (missN l a due f k).1, (missN l a due f k).2 + 1) := by rw [HX.out]; rfl
      rw [← HC.out] at hc
      obtain ⟨l1, hl1⟩ : ∃ l1, l1 = (missN l a due f k).1 := ⟨_, rfl⟩
      rw [← hl1] at hrl hlen hg1
      have HSN := Lib.hid hsn
      have HL1 := Lib.hid hl1
      have hl1n : l1.length ≤ 70000 := by omega
      clear hlen
      have HK1 := Lib.hid hk1
      have HO1 := Lib.hid ho1
      have HF := Lib.hid (find_any b v1 l1 f lg x wr hg1 hrl.ris (by omega))
      have HG1 := Lib.hid hg1
      have HRL := Lib.hid hrl
      clear hsn hl1 hk1 ho1 hg1 hrl HG
      go_wp2_with fail
      cases hs : has l1 x
      · have hf := HF.out
        rw [hs] at hf
        refine hf.mono ?_
        rintro e w1 ⟨p, hp, rfl, hb1⟩
        have HP := Lib.hid hp
        have h2 := HG1.out.below hb1
        have i1 : (0 : Int) ≤ (p : Int) := by omega
        have hple : p ≤ l1.length := hp.le
        have hlb : b < w1.heap.size := h2.str.lt
        have hvb : v1.ownBlock ≠ some b := fun e => (h2.ne e).1 rfl
        have hvn : v1.ownBlock ≠ some w1.heap.size := fun e => by have := (h2.ne e).2; omega
        have hH4 : GpAt (w1.alloc (.cells #[.int .i64 x, .int .i64 due, .int .i64 f, .int .i64 0] 62)).drew b v1 l1 f lg := (h2.below ((Below.refl _ w1).alloc (Nat.le_refl _) _)).drew
        have hK4 : Keep (fun _ => False) wr (w1.alloc (.cells #[.int .i64 x, .int .i64 due, .int .i64 f, .int .i64 0] 62)).drew := ((Keep.ofBelowAll hb1).alloc _).drew
        obtain ⟨n1, hn1⟩ : ∃ n1, n1 = l1.length + 1 := ⟨_, rfl⟩
        have hI := insert_hole 0 w1.heap.size p v1 l1 ⟨x, due, f, 0⟩ _ hole_one hple (by omega) (Nat.zero_le _) hH4.row ((Blk.new w1 #[.int .i64 x, .int .i64 due, .int .i64 f, .int .i64 0] 62).drew) hvn
        rw [← hn1] at hI
        have HN1 := Lib.hid hn1
        have HI := Lib.hid hI
        have HPI := Lib.hid (put_ins (t := ⟨x, due, f, 0⟩) hp (has_false.1 hs))
        have HS := Lib.hid hs
        have HH4 := Lib.hid hH4
        have HK4 := Lib.hid hK4
        obtain ⟨y0, y1, y2⟩ := blk3 h2.str
        have fy := h2.str.frozen 2
        obtain ⟨q0, q1, q2⟩ := blk3 hH4.str
        have hb1s := hb1.size
        have HB1 := Lib.hid hb1
        clear hI hH4 hn1 hf hs hp h2 hb1 hK4
        go_wp2_with fail
        go_region_with (go_at_call 23; refine HI.out.mono ?_; rintro e w4 ⟨A, cc, rfl, ho, hk, hno⟩; have hs4 := HH4.out.str.keep hk hvb; have d := blk3 hs4; have fy4 := hs4.frozen 2; have HS4 := Lib.hid hs4; have HO := Lib.hid ho; have HK := Lib.hid hk; have HNO := Lib.hid hno; clear hs4 ho hk hno)
        all_goals
          have hne' : ∀ g, (Value.slice A n1 cc).ownBlock = some g → g ≠ b := fun g hg e => by
            rcases HNO.out g hg with h | h
            · exact hvb (e ▸ h)
            · simp at h; omega
          have hel : (put1 l1 p ⟨x, due, f, 0⟩).length = n1 := by rw [put_len hple, HN1.out]
          have hG5 := GpAt.setV HS4.out (by rw [hel]; exact HO.out) hne'
          have hC5 : Chg w (w4.setCell ⟨b, 2, none⟩ (.slice A n1 cc)) b v (put1 l1 p ⟨x, due, f, 0⟩) f lg := by
            refine Chg.after HO1.out HK1.out ⟨_, hG5, fun g hg => (HNO.out g hg).imp id (fun h => by simp at h; omega), ?_⟩
            exact ((HK4.out.mono (fun k _ h => h.elim)).trans (HK.out.mono (fun k _ h => .inr h)) (fun k _ h => h)).setCell (p := ⟨b, 2, none⟩) (.inl (.inl rfl)) _
          rw [HPI.out] at hC5
          have HN : Hid ((missN l a due f (k + 1)).1 = ins ⟨x, due, f, 0⟩ l1 ∧ (missN l a due f (k + 1)).2 = c + 1) := by
            rw [HSN.out, ← HL1.out, HS.out, HC.out]; exact ⟨rfl, rfl⟩
          have HC5 := Lib.hid hC5
          clear hne' hel hG5 hC5 y0 y1 y2 q0 q1 q2 d
          go_wp2
          go_roundw
          case rel => exact ⟨k + 1, x + 1, c + 1, by omega, by omega, Lib.hid (by have := HX.out; omega), Lib.hid HN.out.2.symm, rfl, by go_num, by rw [HN.out.1]; exact HC5⟩
          case measure => simp [intOf]; omega
      · have hf := HF.out
        rw [hs] at hf
        refine hf.mono ?_
        rintro e w1 ⟨p, hp, rfl, hb1⟩
        have HN : Hid ((missN l a due f (k + 1)).1 = l1 ∧ (missN l a due f (k + 1)).2 = c) := by
          rw [HSN.out, ← HL1.out, hs, if_pos rfl]; exact ⟨HL1.out.symm, HC.out.symm⟩
        have HC5 := Lib.hid (Chg.after HO1.out HK1.out (chg_same HG1.out hb1))
        clear hf hs hp hb1
        go_wp2
        go_roundw
        case rel => exact ⟨k + 1, x + 1, c, by omega, by omega, Lib.hid (by have := HX.out; omega), Lib.hid HN.out.2.symm, rfl, rfl, by rw [HN.out.1]; exact HC5⟩
        case measure => simp [intOf]; omega
    · obtain rfl : x = B := by omega
      have hkm : k = m := by have := HX.out; have := HMB.out; omega
      subst hkm
      have HG' := HG.out
      rw [HC.out]
      have HG2 := Lib.hid HG'
      clear HG'
      go_wp2
      go_ret2
      exact ⟨rfl, HG2.out⟩

theorem info_int : (Try.prog.info? 3).map (fun i => (i.zero, i.size, i.bytes)) = some (some (.int .i64 0), 1, 8) := by kernel_rfl
def tiredL (t : Int) (l : List Hole) : List Int := (l.filter fun o => decide (t ≤ o.tries)).map Hole.block
theorem tired_yes {t : Int} {l : List Hole} {k : Nat} {o : Hole} (h : l[k]? = some o) (ht : t ≤ o.tries) : tiredL t (l.take (k + 1)) = tiredL t (l.take k) ++ [o.block] := by
  rw [List.take_add_one, h]; simp [tiredL, ht]
theorem tired_no {t : Int} {l : List Hole} {k : Nat} {o : Hole} (h : l[k]? = some o) (ht : ¬ t ≤ o.tries) : tiredL t (l.take (k + 1)) = tiredL t (l.take k) := by
  rw [List.take_add_one, h]; simp [tiredL, ht]
theorem tired_len (t : Int) (l : List Hole) : (tiredL t l).length ≤ l.length := by
  unfold tiredL; rw [List.length_map]; exact List.length_filter_le _ _

set_option maxRecDepth 100000 in
set_option maxHeartbeats 1000000 in
theorem tired_any (b : Nat) (v : Value) (l : List Hole) (f lg t : Int) (w : World) (h : GpAt w b v l f lg) (hn : l.length ≤ 100000) :
    Calls Try.prog 9 #[.pointer (some ⟨b, 0, none⟩), .int .i64 t] w fun e w' => ∃ A c, e = .returned (.slice A (tiredL t l).length c) ∧
      w'.ownsRow w.heap.size 3 1 (.slice A (tiredL t l).length c) (tiredL t l).length ((tiredL t l).map (Value.int .i64)) ∧ Below w.heap.size w w' := by
  obtain ⟨i0, hi, hz0, hz1, hz2⟩ := info_parts info_int
  obtain ⟨A, c, rfl⟩ := h.slice
  obtain ⟨c0, c1, c2⟩ := blk3 h.str
  have HH := Lib.hid h.holes
  obtain ⟨n, hnn⟩ : ∃ n, n = l.length := ⟨_, rfl⟩
  rw [← hnn] at c2 hn HH
  have HN := Lib.hid hnn
  clear h hnn
  go_enter Try.func9, Try.ntmps9
  go_wp2
  go_loopw [5, 7, 13] (fun o _ i wr => ∃ k : Nat, k ≤ n ∧ i = .int .i64 k ∧ Hid (wr.ownsRow w.heap.size 3 1 o (tiredL t (l.take k)).length ((tiredL t (l.take k)).map (Value.int .i64))) ∧ Below w.heap.size w wr) (fun _ _ i _ => n - (intOf i).toNat)
  case atStart => exact ⟨0, by omega, rfl, World.ownsRow_nil _ _ _ _, Below.refl _ _⟩
  case round =>
    obtain ⟨k, hk, rfl, hown, hb⟩ := hrel
    have hs := hb.size
    by_cases hlt : k < n
    · obtain ⟨o, ho⟩ : ∃ o, l[k]? = some o := ⟨_, List.getElem?_eq_getElem (by rw [← HN.out]; exact hlt)⟩
      obtain ⟨g, p, c0', he, o0, o1, o2, o3⟩ := HolesAt.at (Reads.below HH.out hb) ho
      rw [← HN.out] at he
      cases he
      have i1 : (0 : Int) ≤ (k : Int) := by omega
      have i2 : (k : Int) < (n : Int) := by omega
      have hkl := tired_len t (l.take k)
      rw [List.length_take] at hkl
      by_cases ht : t ≤ o.tries
      · have HD := Lib.hid (tired_yes ho ht)
        clear ho
        go_wp2_with (at_builtin; refine wpList_app1n rfl _ _ 31 rfl w.heap.size 3 i0 (.int .i64 0) 1 8 Try.underlying31 hi hz0 hz1 hz2 rfl _ (tiredL t (l.take k)).length _ rfl ((Hid.out hown).alloc _) (wr.heap.size + 1) (by simp) #[.int .i64 o.block] 1 rfl rfl (by intro u hu; simp at hu; subst hu; rfl) (by omega) (by omega) (by simp; omega) ?_; rintro A2 c2 w2 hown2 hk2 - -)
        have hb2 : Below w.heap.size w w2 := (hb.alloc hs _).trans (hk2.below (fun g hg => ((Hid.out hown).lt g hg).1) (by simp; omega))
        have HO : Hid (w2.ownsRow w.heap.size 3 1 (.slice A2 ((tiredL t (l.take k)).length + 1) c2) (tiredL t (l.take (k + 1))).length ((tiredL t (l.take (k + 1))).map (Value.int .i64))) := by
          show World.ownsRow ..
          rw [HD.out, List.map_append, List.length_append]; exact hown2
        clear hown2
        go_wp2
        go_roundw
        case rel => exact ⟨k + 1, by omega, by go_num, HO, hb2⟩
        case measure => simp [intOf]; omega
      · have HD := Lib.hid (tired_no ho ht)
        clear ho
        go_wp2
        go_roundw
        case rel => exact ⟨k + 1, by omega, by go_num, by rw [HD.out]; exact Lib.hid ((Hid.out hown).alloc _), hb.alloc hs _⟩
        case measure => simp [intOf]; omega
    · obtain rfl : k = n := by omega
      have ho := Hid.out hown
      rw [List.take_of_length_le (by rw [← HN.out]; omega)] at ho
      obtain ⟨A', c', hv⟩ := ownsRow_slice ho
      subst hv
      have HO := Lib.hid ho
      clear ho hown
      go_wp2
      go_ret
      exact ⟨A', c', rfl, HO.out, hb⟩

set_option maxRecDepth 100000 in
set_option maxHeartbeats 400000 in
theorem copy_any (b : Nat) (v : Value) (l : List Hole) (f lg : Int) (w : World) (h : GpAt w b v l f lg) (hn : l.length ≤ 100000) :
    Calls Try.prog 16 #[.pointer (some ⟨b, 0, none⟩)] w fun e w' => ∃ b' v', e = .returned (.pointer (some ⟨b', 0, none⟩)) ∧ GpAt w' b' v' l f lg ∧ w.heap.size ≤ b' ∧ (∀ g, v'.ownBlock = some g → w.heap.size ≤ g) ∧ Below w.heap.size w w' := by
  obtain ⟨A, k, rfl⟩ := h.slice
  obtain ⟨c0, c1, c2⟩ := blk3 h.str
  have HC := Lib.hid (fun w (h : GpAt w b (.slice A l.length k) l f lg) => clone_hole (.slice A l.length k) l.length (l.flatMap holeCells) w h.holes (by omega) (holes_one l))
  have HG := Lib.hid h
  clear h
  go_enter Try.func16, Try.ntmps16
  go_wp2_with fail
  go_region_held3 (fun w' => w'.cell? ⟨b, 0, none⟩ = some (.int .i64 f) ∧ w'.cell? ⟨b, 1, none⟩ = some (.int .i64 lg) ∧ w'.cell? ⟨b, 2, none⟩ = some (.slice A l.length k)) (first | exact ⟨c0, c1, c2⟩ | exact d1 | exact d2)
    (first
      | (go_at_call 29; refine (HC.out _ (HG.out.drewN 1)).mono ?_; rintro e w1 ⟨A1, cc, rfl, ho1, hb1, hn1⟩; have d1 := blk3 ((HG.out.drewN 1).below hb1).str; have d2 := blk3 (((HG.out.drewN 1).below hb1).below ((Below.refl _ w1).alloc (Nat.le_refl _) (.cells #[.int .i64 f, .int .i64 lg, .slice A1 l.length cc] 58))).str; have HO1 := Lib.hid ho1; have HB1 := Lib.hid hb1; clear ho1 hb1 hn1))
  clear c0 c1 c2 d1 d2
  go_wp2
  go_ret
  have hs1 : w.heap.size ≤ w1.heap.size := HB1.out.size
  have hb : Below w.heap.size w w1 := ⟨HB1.out.os, HB1.out.tape, HB1.out.output, HB1.out.size, HB1.out.block⟩
  have hrow : w1.ownsRow 0 62 4 (.slice A1 l.length cc) l.length (l.flatMap holeCells) := ownsRow_base HO1.out (Nat.zero_le _)
  exact ⟨w1.heap.size, _, rfl, ⟨Blk.new w1 _ _, hrow.alloc _⟩, hs1, fun g hg => (HO1.out.lt g hg).1, hb.alloc hs1 _⟩
end Go.Proofs.Ytkgngmmlfoiajaa
