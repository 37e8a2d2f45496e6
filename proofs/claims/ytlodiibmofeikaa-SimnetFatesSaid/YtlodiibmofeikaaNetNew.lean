/- simnet: New. -/
import Derived.Test.YtlodiibmofeikaaNet
import Derived.Deep.RegionHeld3
namespace Go.Proofs.Ytlodiibmofeikaa
open Go.RowKit
set_option linter.unusedVariables false
set_option linter.unusedSimpArgs false

theorem blk5' {w : World} {b : Nat} {v0 v1 v2 v3 v4 : Value} {T : TypeId} (h : Blk w b #[v0, v1, v2, v3, v4] T) : w.cell? ⟨b, 0, none⟩ = some v0 ∧ w.cell? ⟨b, 1, none⟩ = some v1 ∧ w.cell? ⟨b, 2, none⟩ = some v2 ∧ w.cell? ⟨b, 3, none⟩ = some v3 ∧ w.cell? ⟨b, 4, none⟩ = some v4 :=
  ⟨h.cell 0 rfl, h.cell 1 rfl, h.cell 2 rfl, h.cell 3 rfl, h.cell 4 rfl⟩
theorem info_pipeP : (Try.prog.info? 71).map (fun i => (i.zero, i.size, i.bytes)) = some (some (.pointer none), 1, 8) := by kernel_rfl
theorem fates_one (l : List FD) : ∀ u ∈ l.flatMap fateCells, u.oneCell' = true := by
  intro u hu
  obtain ⟨x, -, hx⟩ := List.mem_flatMap.1 hu
  simp only [fateCells, List.mem_cons, List.not_mem_nil, or_false] at hx
  rcases hx with rfl | rfl <;> rfl
def col1 (nb b g lo : Nat) (x : Nat) : Nat := if x = nb then 1 else if x = b then 2 else if x = g then 3 else if lo ≤ x ∧ x < nb then 5 else 0
/-- the net when it has been made, without pipes -/
theorem NetAt.first {w w1 w2 : World} {b g : Nat} {n : Nat} {j lv delay room : Int} {fv : Value} {F : List FD} (hg : GrpAt w1 b g n (List.replicate n one0) j lv) (hb : w.heap.size ≤ b) (hgg : w.heap.size ≤ g) (hb1 : Below w.heap.size w w1)
    (hf : w2.ownsRow w1.heap.size 39 2 fv F.length (F.flatMap fateCells)) (hb2 : Below w1.heap.size w1 w2) :
    NetAt (w2.alloc (.cells (netC b delay (.slice none 0 0) fv ((0 : Nat) : Int) stN0) 37)) (col1 w2.heap.size b g w1.heap.size) w2.heap.size ⟨b, g, n, List.replicate n one0, j, lv⟩ delay room (.slice none 0 0) [] fv F 0 stN0 := by
  have h1 := hg.str.lt
  have h2 := hg.ltg
  have h3 := hg.ne
  have h4 := hb2.size
  refine ⟨Blk.new w2 _ _, (hg.below hb2).below ((Below.refl _ w2).alloc (Nat.le_refl _) _), World.ownsRow_nil _ _ _ _, (ownsRow_base hf (Nat.zero_le _)).alloc _, fun i p hp => (by simp at hp), if_pos rfl, ?_, ?_, fun x hx => (by cases hx), fun x hx => ?_, fun x hx => ?_⟩
  · show (if b = w2.heap.size then 1 else if b = b then 2 else _) = 2
    rw [if_neg (by omega), if_pos rfl]
  · show (if g = w2.heap.size then 1 else if g = b then 2 else if g = g then 3 else _) = 3
    rw [if_neg (by omega), if_neg (by omega), if_pos rfl]
  · have h5 := hf.lt x hx
    show (if x = w2.heap.size then 1 else if x = b then 2 else if x = g then 3 else if w1.heap.size ≤ x ∧ x < w2.heap.size then 5 else 0) = 5
    rw [if_neg (by omega), if_neg (by omega), if_neg (by omega), if_pos h5]
  · have h5 : w2.heap.size + 1 ≤ x := by simpa using hx
    show (if x = w2.heap.size then 1 else if x = b then 2 else if x = g then 3 else if w1.heap.size ≤ x ∧ x < w2.heap.size then 5 else 0) = 0
    rw [if_neg (by omega), if_neg (by omega), if_neg (by omega), if_neg (by omega)]
structure CfgOk (rc delay room j lv : Int) : Prop where
  rc : 1 ≤ rc ∧ rc ≤ 64
  delay : 0 ≤ delay ∧ delay ≤ 64
  room : 1 ≤ room ∧ room ≤ 256
  j : 0 ≤ j ∧ j ≤ 64
  lv : 0 ≤ lv ∧ lv ≤ 64
def newPipes (P : List PD) : Prop := ∀ p ∈ P, p.l = []
structure NewNet (w w' : World) (nb n : Nat) (delay room j lv : Int) (F : List FD) : Prop where
  ex : ∃ col gb gg pv P fv, NetAt w' col nb ⟨gb, gg, n, List.replicate n one0, j, lv⟩ delay room pv P fv F 0 stN0 ∧ P.length = n + 1 ∧ newPipes P ∧ (∀ x, col x ≠ 0 → w.heap.size ≤ x)
  bel : Below w.heap.size w w'
set_option maxRecDepth 100000 in
set_option maxHeartbeats 4000000 in
theorem netNew_ok (n : Nat) (delay room j lv : Int) (A : Option Addr) (cf : Nat) (F : List FD) (w : World) (h : CfgOk n delay room j lv) (hx : Reads w 2 (.slice A F.length cf) F.length (F.flatMap fateCells)) (hF : F.length ≤ 1000000) :
    Calls Try.prog 8 #[.agg #[.int .i64 n, .int .i64 delay, .int .i64 room, .int .i64 j, .int .i64 lv], .slice A F.length cf] w fun e w' => ∃ nb, e = .returned (.tuple #[.pointer (some ⟨nb, 0, none⟩), .int .i64 0]) ∧ NewNet w w' nb n delay room j lv F := by
  obtain ⟨⟨r1, r2⟩, ⟨d1, d2⟩, ⟨m1, m2⟩, hj, hl⟩ := h
  obtain ⟨i0, hi0, hz0, hz1, hz2⟩ := info_parts info_pipeP
  have HI0 := Lib.hid hi0
  have HZ0 := Lib.hid hz0
  have HZ1 := Lib.hid hz1
  have HZ2 := Lib.hid hz2
  have hb0 : Below w.heap.size w (w.alloc (.cells #[.int .i64 n, .int .i64 delay, .int .i64 room, .int .i64 j, .int .i64 lv] 30)) := (Below.refl _ w).alloc (Nat.le_refl _) _
  have HB0 := Lib.hid hb0
  have HX := Lib.hid (hx.below hb0)
  have HC := Lib.hid (Blk.new w #[.int .i64 n, .int .i64 delay, .int .i64 room, .int .i64 j, .int .i64 lv] 30)
  have HGN := Lib.hid (fun w => new_yes n j lv w ⟨by omega, by omega, hj.1, hj.2, hl.1, hl.2⟩)
  have HCL := Lib.hid (fun (w : World) (hx : Reads w 2 (.slice A F.length cf) F.length (F.flatMap fateCells)) => clone_fate (.slice A F.length cf) F.length (F.flatMap fateCells) w hx (by omega) (fates_one F))
  have HPN := Lib.hid (fun w => new_ok (R := NoR) room w m1 m2)
  have HZW : Hid (w.heap.size < (w.alloc (.cells #[.int .i64 n, .int .i64 delay, .int .i64 room, .int .i64 j, .int .i64 lv] 30)).heap.size) := by show _ < _; simp
  obtain ⟨y0, y1, y2, y3, y4⟩ := blk5' HC.out
  obtain ⟨k, hk⟩ : ∃ k, k = F.length := ⟨_, rfl⟩
  have HK := Lib.hid hk
  rw [← hk] at HX HCL ⊢
  clear hx hb0 hi0 hz0 hz1 hz2 hj hl hk hF
  go_enter Try.func8, Try.ntmps8
  go_wp2_with fail
  generalize w.alloc (.cells #[.int .i64 n, .int .i64 delay, .int .i64 room, .int .i64 j, .int .i64 lv] 30) = wz at *
  refine (HGN.out wz).mono ?_
  rintro e w1 ⟨gb, gg, rfl, hgr, hgb, hgg, hb1⟩
  have HGR := Lib.hid hgr
  have HGB := Lib.hid hgb
  have HGG := Lib.hid hgg
  have HB1 := Lib.hid hb1
  have HC1 := Lib.hid (HC.out.below hb1)
  have HX1 := Lib.hid (HX.out.below hb1)
  clear hgr hgb hgg hb1 y0 y1 y2 y3 y4
  obtain ⟨y0, y1, y2, y3, y4⟩ := blk5' HC1.out
  go_wp2_with fail
  go_region_held3 (fun w' => w'.cell? ⟨w.heap.size, 1, none⟩ = some (.int .i64 delay)) (first | exact y1 | exact e1 | exact e2)
    (first
      | (go_at_call 23; refine (HCL.out _ (HX1.out.drewN 1)).mono ?_; rintro e w2 ⟨A2, cc, rfl, ho2, hb2, -⟩; have e1 := (blk5' ((HC1.out.drewN 1).below hb2)).2.1; have e2 := (blk5' (((HC1.out.drewN 1).below hb2).below ((Below.refl _ w2).alloc (Nat.le_refl _) (.cells #[.pointer (some ⟨gb, 0, none⟩), .int .i64 delay, .slice none 0 0, .slice A2 k cc, .int .i64 0, .int .i64 0, .int .i64 0, .int .i64 0, .int .i64 0, .int .i64 0, .int .i64 0] 37)))).2.1; have HO2 := Lib.hid ho2; have HB2 := Lib.hid hb2; clear ho2 hb2))
  clear y0 y1 y2 y3 y4 e1 e2
  have hbl2 : Below w1.heap.size w1 w2 := (below_drewN (Below.refl w1.heap.size w1) 1).trans HB2.out
  have hfirst := NetAt.first (w := wz) (delay := delay) (room := room) (fv := .slice A2 k cc) (F := F) HGR.out HGB.out HGG.out HB1.out (by rw [← HK.out]; exact HO2.out) hbl2
  have hwz : w.heap.size < wz.heap.size := HZW.out
  have hz2 : wz.heap.size ≤ w2.heap.size := Nat.le_trans HB1.out.size hbl2.size
  have hgb2 : gb < w2.heap.size := Nat.lt_of_lt_of_le HGR.out.str.lt hbl2.size
  have HN0 : Hid (NetAt (w2.alloc (.cells #[.pointer (some ⟨gb, 0, none⟩), .int .i64 delay, .slice none 0 0, .slice A2 k cc, .int .i64 0, .int .i64 0, .int .i64 0, .int .i64 0, .int .i64 0, .int .i64 0, .int .i64 0] 37)) (col1 w2.heap.size gb gg w1.heap.size) w2.heap.size ⟨gb, gg, n, List.replicate n one0, j, lv⟩ delay room (.slice none 0 0) [] (.slice A2 k cc) F 0 stN0) := hfirst
  have hcol0 : ∀ x, col1 w2.heap.size gb gg w1.heap.size x ≠ 0 → w.heap.size < x := by
    intro x hx
    unfold col1 at hx
    have h1 := HGB.out
    have h2 := HGG.out
    have h3 := HB1.out.size
    by_cases a1 : x = w2.heap.size
    · omega
    · by_cases a2 : x = gb
      · omega
      · by_cases a3 : x = gg
        · omega
        · by_cases a4 : w1.heap.size ≤ x ∧ x < w2.heap.size
          · omega
          · rw [if_neg a1, if_neg a2, if_neg a3, if_neg a4] at hx
            exact absurd rfl hx
  have HCL0 := Lib.hid hcol0
  have HBB0 : Hid (Below w.heap.size w (w2.alloc (.cells #[.pointer (some ⟨gb, 0, none⟩), .int .i64 delay, .slice none 0 0, .slice A2 k cc, .int .i64 0, .int .i64 0, .int .i64 0, .int .i64 0, .int .i64 0, .int .i64 0, .int .i64 0] 37))) := (bmore (bmore HB0.out HB1.out HB0.out.size) hbl2 (Nat.le_trans HB0.out.size HB1.out.size)).alloc (by omega) _
  have HCB0 : Hid (Blk (w2.alloc (.cells #[.pointer (some ⟨gb, 0, none⟩), .int .i64 delay, .slice none 0 0, .slice A2 k cc, .int .i64 0, .int .i64 0, .int .i64 0, .int .i64 0, .int .i64 0, .int .i64 0, .int .i64 0] 37)) w.heap.size #[.int .i64 n, .int .i64 delay, .int .i64 room, .int .i64 j, .int .i64 lv] 30) := ((HC1.out.below hbl2)).alloc _
  have hcb := blk5' HCB0.out
  clear hfirst hcol0 hbl2 hwz hz2 hgb2
  obtain ⟨y0, y1, y2, y3, y4⟩ := hcb
  generalize w2.alloc (.cells #[.pointer (some ⟨gb, 0, none⟩), .int .i64 delay, .slice none 0 0, .slice A2 k cc, .int .i64 0, .int .i64 0, .int .i64 0, .int .i64 0, .int .i64 0, .int .i64 0, .int .i64 0] 37) = w3 at *
  generalize col1 w2.heap.size gb gg w1.heap.size = col0 at *
  generalize w2.heap.size = nb at *
  clear HO2 HB2 HGR HGB HGG HB1 HC1 HX1 HX HC HB0 HZW
  go_wp2_with fail
  go_loopw [9, 10, 43] (fun _ _ i wr => ∃ m : Nat, m ≤ n + 1 ∧ i = .int .i64 m ∧ ∃ pv P col, Hid (NetAt wr col nb ⟨gb, gg, n, List.replicate n one0, j, lv⟩ delay room pv P (.slice A2 k cc) F 0 stN0) ∧ Hid (P.length = m) ∧ Hid (newPipes P) ∧ Hid (∀ x, col x ≠ 0 → w.heap.size < x) ∧ Hid (Below w.heap.size w wr) ∧ Hid (Blk wr w.heap.size #[.int .i64 n, .int .i64 delay, .int .i64 room, .int .i64 j, .int .i64 lv] 30)) (fun _ _ i _ => n + 1 - (intOf i).toNat)
  case atStart => exact ⟨0, by omega, rfl, _, [], col0, HN0, rfl, fun p hp => (by cases hp), HCL0, HBB0, HCB0⟩
  case round =>
    obtain ⟨m, hm, rfl, pv, P, col, HN, HPL, HNP, HCO, HBB, HCB⟩ := hrel
    by_cases hlt : m < n + 1
    · have i1 : (0 : Int) ≤ (m : Int) := by omega
      have i2 : (m : Int) < (n : Int) + 1 := by omega
      obtain ⟨y0, y1, y2, y3, y4⟩ := blk5' HCB.out
      go_wp2_with fail
      refine (HPN.out wr).mono ?_
      rintro e w4 ⟨b, rfl, hp4, hb4⟩
      have HP4 := Lib.hid hp4
      have HB4 := Lib.hid hb4
      have HN4 := Lib.hid (HN.out.below hb4)
      obtain ⟨pA, pc, rfl⟩ := ownsRow_slice HN.out.row
      obtain ⟨n0, n1, n2, -⟩ := blk11 HN4.out.str
      have hpl : P.length ≤ 1000 := by have := HPL.out; omega
      clear hp4 hb4 y0 y1 y2 y3 y4
      go_wp2_with (at_builtin; refine wpList_app1 rfl _ _ 33 rfl 0 71 i0 (.pointer none) 1 8 Try.underlying33 HI0.out HZ0.out HZ1.out HZ2.out rfl _ P.length _ rfl HN4.out.row #[.pointer (some ⟨b, 0, none⟩)] 1 rfl rfl (by intro u hu; simp at hu; subst hu; rfl) (by omega) (by omega) (Nat.zero_le _) ?_; rintro A5 c5 w5 hown5 hk5 hn5 -; have HO5 := Lib.hid hown5; have HK5 := Lib.hid hk5; have HN5 := Lib.hid hn5; have HS5 := Lib.hid (HN4.out.str.keep hk5 (fun e => by have h1 := HN4.out.c4 nb e; have h2 := HN4.out.c1; omega)); have f2 := HS5.out.frozen 2; have q2 := (blk11 HS5.out).2.2.1; clear hown5 hk5 hn5)
      go_roundw
      case rel =>
        have hmore := HN.out.more HB4.out HP4.out HK5.out HO5.out HN5.out
        have hs4 := HB4.out.size
        have hs5 := HK5.out.size
        have hco : ∀ x, setc (setc col wr.heap.size w4.heap.size (6 + P.length)) w4.heap.size w5.heap.size 4 x ≠ 0 → w.heap.size < x := by
          intro x hx
          have hwl := HCB.out.lt
          by_cases a1 : w4.heap.size ≤ x ∧ x < w5.heap.size
          · omega
          · by_cases a2 : wr.heap.size ≤ x ∧ x < w4.heap.size
            · omega
            · unfold setc at hx
              rw [if_neg a1, if_neg a2] at hx
              exact HCO.out x hx
        have hnb : w.heap.size < nb := HCO.out nb (by rw [HN.out.c1]; decide)
        have hkb : Keep (fun q => q = nb) w5 (w5.setCell ⟨nb, 2, none⟩ (.slice A5 (P.length + 1) c5)) := (Keep.refl (fun q => q = nb) w5).setCell (p := ⟨nb, 2, none⟩) (.inl rfl) _
        have hown : ∀ q, (Value.slice pA P.length pc).ownBlock = some q → w.heap.size < q := fun q e => HCO.out q (by rw [HN.out.c4 q e]; decide)
        have hbb : Below w.heap.size w (w5.setCell ⟨nb, 2, none⟩ (.slice A5 (P.length + 1) c5)) :=
          bkeep (bkeep (bmore HBB.out HB4.out HBB.out.size) HK5.out (Nat.le_refl _) (fun q e => Nat.le_of_lt (hown q e))) hkb (Nat.le_refl _) (fun q e => by rw [e]; omega)
        have hcb : Blk (w5.setCell ⟨nb, 2, none⟩ (.slice A5 (P.length + 1) c5)) w.heap.size #[.int .i64 n, .int .i64 delay, .int .i64 room, .int .i64 j, .int .i64 lv] 30 :=
          ((HCB.out.below HB4.out).keep HK5.out (fun e => by have := hown _ e; omega)).keep hkb (fun e => by omega)
        exact ⟨m + 1, by omega, by go_num, _, _, _, hmore, by show _ = _; rw [List.length_append, HPL.out]; rfl, fun p hp => by
          rcases List.mem_append.1 hp with x | x
          · exact HNP.out p x
          · simp at x; subst x; rfl, hco, hbb, hcb⟩
      case measure => simp [intOf]; omega
    · obtain rfl : m = n + 1 := by omega
      obtain ⟨y0, y1, y2, y3, y4⟩ := blk5' HCB.out
      have i1 : ¬ ((n + 1 : Nat) : Int) < (n : Int) + 1 := by omega
      go_wp2
      refine bodyPost_ret (v := .tuple #[.pointer (some ⟨nb, 0, none⟩), .int .i64 0]) (by simp [results, Try.results8, go_sem]) rfl ?_
      exact ⟨nb, rfl, ⟨col, gb, gg, pv, P, _, HN.out, HPL.out, HNP.out, fun x hx => Nat.le_of_lt (HCO.out x hx)⟩, HBB.out⟩
set_option maxRecDepth 100000 in
set_option maxHeartbeats 4000000 in
theorem netNew_no (rc delay room j lv : Int) (w : World) (h : ¬ CfgOk rc delay room j lv) :
    Calls Try.prog 8 #[.agg #[.int .i64 rc, .int .i64 delay, .int .i64 room, .int .i64 j, .int .i64 lv], .slice none 0 0] w fun e w' => e = .returned (.tuple #[.pointer none, .int .i64 11]) ∧ Below w.heap.size w w' := by
  have hb0 : Below w.heap.size w (w.alloc (.cells #[.int .i64 rc, .int .i64 delay, .int .i64 room, .int .i64 j, .int .i64 lv] 30)) := (Below.refl _ w).alloc (Nat.le_refl _) _
  have HB0 := Lib.hid hb0
  have HC := Lib.hid (Blk.new w #[.int .i64 rc, .int .i64 delay, .int .i64 room, .int .i64 j, .int .i64 lv] 30)
  obtain ⟨y0, y1, y2, y3, y4⟩ := blk5' HC.out
  clear hb0
  by_cases hg : GrpOk rc j lv
  · have HGN := Lib.hid (fun w => (by
      obtain ⟨m, rfl⟩ : ∃ m : Nat, rc = m := ⟨rc.toNat, by have := hg.1; omega⟩
      exact (new_yes m j lv w hg).mono (fun e w' h => by obtain ⟨b, g, h1, -, -, -, h2⟩ := h; exact ⟨b, g, h1, h2⟩) : Calls Try.prog 22 #[.int .i64 rc, .int .i64 j, .int .i64 lv] w fun e w' => ∃ b g, e = .returned (.tuple #[.pointer (some ⟨b, 0, none⟩), .int .i64 0]) ∧ Below w.heap.size w w'))
    have hr := hg.1
    have hr2 := hg.2.1
    have hc : delay < 0 ∨ (0 ≤ delay ∧ 64 < delay) ∨ (0 ≤ delay ∧ delay ≤ 64 ∧ (room < 1 ∨ 256 < room)) := by
      rcases (by omega : delay < 0 ∨ (0 ≤ delay ∧ 64 < delay) ∨ (0 ≤ delay ∧ delay ≤ 64)) with g | g | g
      · exact .inl g
      · exact .inr (.inl g)
      · refine .inr (.inr ⟨g.1, g.2, ?_⟩)
        rcases (by omega : room < 1 ∨ 256 < room ∨ (1 ≤ room ∧ room ≤ 256)) with x | x | x
        · exact .inl x
        · exact .inr x
        · exact absurd (⟨⟨hg.1, hg.2.1⟩, g, x, ⟨hg.2.2.1, hg.2.2.2.1⟩, ⟨hg.2.2.2.2.1, hg.2.2.2.2.2⟩⟩ : CfgOk rc delay room j lv) h
    clear h hg
    rcases hc with g | ⟨g, g'⟩ | ⟨g, g', g2⟩
    case inr.inr =>
      have HPN := Lib.hid (fun w => pnew_no room w g2)
      have HCL := Lib.hid (fun (w : World) => clone_fate (.slice none 0 0) 0 [] w (Reads.nil w 2) (by omega) (by intro u hu; cases hu))
      clear g2
      go_enter Try.func8, Try.ntmps8
      go_wp2_with fail
      generalize w.alloc (.cells #[.int .i64 rc, .int .i64 delay, .int .i64 room, .int .i64 j, .int .i64 lv] 30) = wz at *
      refine (HGN.out wz).mono ?_
      rintro e w1 ⟨gb, gg, rfl, hb1⟩
      have HB1 := Lib.hid hb1
      have HC1 := Lib.hid (HC.out.below hb1)
      clear y0 y1 y2 y3 y4 hb1
      obtain ⟨y0, y1, y2, y3, y4⟩ := blk5' HC1.out
      go_wp2_with fail
      go_region_held3 (fun w' => w'.cell? ⟨w.heap.size, 1, none⟩ = some (.int .i64 delay)) (first | exact y1 | exact e1 | exact e2)
        (first
          | (go_at_call 23; refine (HCL.out _).mono ?_; rintro e w2 ⟨A2, cc, rfl, -, hb2, -⟩; have e1 := (blk5' ((HC1.out.drewN 1).below hb2)).2.1; have e2 := (blk5' (((HC1.out.drewN 1).below hb2).below ((Below.refl _ w2).alloc (Nat.le_refl _) (.cells #[.pointer (some ⟨gb, 0, none⟩), .int .i64 delay, .slice none 0 0, .slice A2 0 cc, .int .i64 0, .int .i64 0, .int .i64 0, .int .i64 0, .int .i64 0, .int .i64 0, .int .i64 0] 37)))).2.1; have HB2 := Lib.hid hb2; clear hb2))
      clear y0 y1 y2 y3 y4 e1 e2
      have hbl2 : Below w1.heap.size w1 w2 := (below_drewN (Below.refl w1.heap.size w1) 1).trans HB2.out
      have hbb : Below w.heap.size w (w2.alloc (.cells #[.pointer (some ⟨gb, 0, none⟩), .int .i64 delay, .slice none 0 0, .slice A2 0 cc, .int .i64 0, .int .i64 0, .int .i64 0, .int .i64 0, .int .i64 0, .int .i64 0, .int .i64 0] 37)) :=
        (bmore (bmore HB0.out HB1.out HB0.out.size) hbl2 (Nat.le_trans HB0.out.size HB1.out.size)).alloc (by have h1 := HB0.out.size; have h2 := HB1.out.size; have h3 := hbl2.size; omega) _
      have HBB := Lib.hid hbb
      have HCB : Hid (Blk (w2.alloc (.cells #[.pointer (some ⟨gb, 0, none⟩), .int .i64 delay, .slice none 0 0, .slice A2 0 cc, .int .i64 0, .int .i64 0, .int .i64 0, .int .i64 0, .int .i64 0, .int .i64 0, .int .i64 0] 37)) w.heap.size #[.int .i64 rc, .int .i64 delay, .int .i64 room, .int .i64 j, .int .i64 lv] 30) := (HC1.out.below hbl2).alloc _
      clear hbl2 hbb HB2
      generalize w2.alloc (.cells #[.pointer (some ⟨gb, 0, none⟩), .int .i64 delay, .slice none 0 0, .slice A2 0 cc, .int .i64 0, .int .i64 0, .int .i64 0, .int .i64 0, .int .i64 0, .int .i64 0, .int .i64 0] 37) = w3 at *
      obtain ⟨y0, y1, y2, y3, y4⟩ := blk5' HCB.out
      go_wp2_with fail
      go_loopw [9, 10, 43] (fun _ _ i wr => i = .int .i64 0 ∧ Hid (w3 = wr)) (fun _ _ i _ => 0)
      case atStart => exact ⟨rfl, rfl⟩
      case round =>
        obtain ⟨rfl, HW⟩ := hrel
        have hw := HW.out
        subst hw
        clear HW
        have i1 : (0 : Int) < rc + 1 := by omega
        have i2 : (0 : Int) ≤ rc := by omega
        have i3 : IntKind.i64.wrap (rc + 1) = rc + 1 := IntWalk.i64_in _ (by omega)
        go_wp2_with fail
        refine (HPN.out w3).mono ?_
        rintro e w4 ⟨rfl, rfl⟩
        go_wp2
        exact bodyPost_ret (v := .tuple #[.pointer none, .int .i64 11]) (by simp [results, Try.results8, go_sem]) rfl ⟨rfl, HBB.out⟩
    all_goals
      go_enter Try.func8, Try.ntmps8
      go_wp2_with fail
      generalize w.alloc (.cells #[.int .i64 rc, .int .i64 delay, .int .i64 room, .int .i64 j, .int .i64 lv] 30) = wz at *
      refine (HGN.out wz).mono ?_
      rintro e w1 ⟨gb, gg, rfl, hb1⟩
      have HB1 := Lib.hid (bmore HB0.out hb1 HB0.out.size)
      have HC1 := Lib.hid (HC.out.below hb1)
      clear y0 y1 y2 y3 y4 hb1
      obtain ⟨y0, y1, y2, y3, y4⟩ := blk5' HC1.out
      go_wp2
      exact bodyPost_ret (v := .tuple #[.pointer none, .int .i64 11]) (by simp [results, Try.results8, go_sem]) rfl ⟨rfl, HB1.out⟩
  · have HGN := Lib.hid (fun w => new_no rc j lv w hg)
    clear hg h
    go_enter Try.func8, Try.ntmps8
    go_wp2_with fail
    generalize w.alloc (.cells #[.int .i64 rc, .int .i64 delay, .int .i64 room, .int .i64 j, .int .i64 lv] 30) = wz at *
    refine (HGN.out wz).mono ?_
    rintro e w1 ⟨rfl, rfl⟩
    go_wp2
    exact bodyPost_ret (v := .tuple #[.pointer none, .int .i64 11]) (by simp [results, Try.results8, go_sem]) rfl ⟨rfl, HB0.out⟩
end Go.Proofs.Ytlodiibmofeikaa
