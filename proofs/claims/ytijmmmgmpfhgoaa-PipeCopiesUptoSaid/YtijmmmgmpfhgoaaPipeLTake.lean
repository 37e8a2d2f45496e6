/- pipe: the law's take. -/
import Derived.Test.YtijmmmgmpfhgoaaPipeLT
import Derived.Test.YtijmmmgmpfhgoaaDet
namespace Go.Proofs.Ytijmmmgmpfhgoaa
open Go.RowKit Go.Shelf
attribute [local go_sem] Oper.semAt_some
set_option linter.unusedVariables false
set_option linter.unusedSimpArgs false

theorem meetIn {F : Fence} {n : Nat} {P : Program} {c : Code} {K : Act → World → Prop} {Q : Exit → Act → World → Prop} {a : Act} {w : World} {A : Act} {W : World} (first : ∀ K' : Act → World → Prop, K' A W → c.wpIn F n P (Exit.then K' Q) a w) (rest : K A W) : c.wpIn F n P (Exit.then K Q) a w := first K rest
theorem mixed_ok : Try.prog.follows .mixedOrders = true := by kernel_rfl
/-- between the rounds: the reference's list in its box, the call, the results' boxes, how many have come -/
structure LI (w : World) (G : Nat → Prop) (N6 p4 p5 p6 p7 p8 : Nat) (l : List Msg) (oc : Array Value) (N : Int) (k : Nat) (W : World) : Prop where
  xs : ∃ X v, Blk W p4 #[v] 33 ∧ ROwn W v X ∧ (∀ g, v.ownBlock = some g → ¬ G g ∧ (g < w.heap.size ∨ N6 ≤ g)) ∧ (l.drop k).map toR = sorted X
  op : Blk W p5 oc 35
  r6 : Blk W p6 #[.slice none 0 0] 33
  r7 : Blk W p7 #[.bool false] 4
  kb : Blk W p8 #[.int .i64 (k : Int)] 3
  kp : Keep G w W
  nk : k = 0 ∨ ¬ (k : Int) = N
  sz : N6 ≤ W.heap.size
/-- behind a return within a round -/
structure LR (w : World) (G : Nat → Prop) (N6 p6 p7 : Nat) (l : List Msg) (N : Int) (k : Nat) (W : World) : Prop where
  xs : ∃ X v, Blk W p6 #[v] 33 ∧ ROwn W v X ∧ (∀ g, v.ownBlock = some g → ¬ G g ∧ (g < w.heap.size ∨ N6 ≤ g)) ∧ (l.drop k).map toR = sorted X
  r7 : Blk W p7 #[.bool true] 4
  kp : Keep G w W
  nk : 1 ≤ k ∧ (k : Int) = N
theorem LI.keep2 {S : Nat → Prop} {w A B : World} {G : Nat → Prop} {N6 p4 p5 p6 p7 p8 : Nat} {l : List Msg} {oc : Array Value} {N : Int} {k : Nat} (h : LI w G N6 p4 p5 p6 p7 p8 l oc N k A) (hk : Keep S A B) (hb : ∀ q, q = p4 ∨ q = p5 ∨ q = p6 ∨ q = p7 ∨ q = p8 → ¬ S q) (hv : ∀ v, Blk A p4 #[v] 33 → ∀ g, v.ownBlock = some g → ¬ S g) (hs : ∀ q, q < w.heap.size → S q → G q) : LI w G N6 p4 p5 p6 p7 p8 l oc N k B := by
  obtain ⟨⟨X, v, h1, h2, h3, h4⟩, a, b, c, d, e, f, z⟩ := h
  exact ⟨⟨X, v, h1.keep hk (hb _ (by simp)), ownsRow_keep h2 hk (fun g hg hx => hv v h1 g hg hx), h3, h4⟩, a.keep hk (hb _ (by simp)), b.keep hk (hb _ (by simp)), c.keep hk (hb _ (by simp)), d.keep hk (hb _ (by simp)), e.trans hk hs, f, Nat.le_trans z hk.size⟩
theorem LI.keep {S : Nat → Prop} {w A B : World} {G : Nat → Prop} {N6 p4 p5 p6 p7 p8 : Nat} {l : List Msg} {oc : Array Value} {N : Int} {k : Nat} (h : LI w G N6 p4 p5 p6 p7 p8 l oc N k A) (hp : ∀ q, q = p4 ∨ q = p5 ∨ q = p6 ∨ q = p7 ∨ q = p8 → w.heap.size ≤ q) (hG : ∀ q, G q → q < w.heap.size) (hk : Keep S A B) (hs : ∀ q, S q → G q) : LI w G N6 p4 p5 p6 p7 p8 l oc N k B := by
  refine h.keep2 hk (fun q hq hx => by have := hG q (hs q hx); have := hp q hq; omega) (fun v hv g hg hx => ?_) (fun q _ hx => hs q hx)
  obtain ⟨X, v', h1, h2, h3, h4⟩ := h.xs
  have e3 : (some (Obj.cells #[v] 33) : Option Obj) = some (Obj.cells #[v'] 33) := hv.symm.trans h1
  cases e3
  exact (h3 g hg).1 (hs g hx)
theorem LI.turn {w W : World} {G : Nat → Prop} {N6 p4 p5 p6 p7 p8 : Nat} {l : List Msg} {oc : Array Value} {N : Int} {k : Nat} (h : LI w G N6 p4 p5 p6 p7 p8 l oc N k W) {q : Nat} {o o' : Obj} (hq : w.heap.size ≤ q) (ho : W.heap[q]? = some o) (hc : o.isCells = false) : LI w G N6 p4 p5 p6 p7 p8 l oc N k (W.putObj q o') := by
  obtain ⟨⟨X, v, h1, h2, h3, h4⟩, a, b, c, d, e, f, z⟩ := h
  exact ⟨⟨X, v, blk_turn h1 ho hc, (keepC_turn ho hc (fun _ => False)).row h2 (fun _ _ => id), h3, h4⟩, blk_turn a ho hc, blk_turn b ho hc, blk_turn c ho hc, blk_turn d ho hc, keep_turn e hq, f, by simpa using z⟩
theorem LR.turn {w W : World} {G : Nat → Prop} {N6 p6 p7 : Nat} {l : List Msg} {N : Int} {k : Nat} (h : LR w G N6 p6 p7 l N k W) {q : Nat} {o o' : Obj} (hq : w.heap.size ≤ q) (ho : W.heap[q]? = some o) (hc : o.isCells = false) : LR w G N6 p6 p7 l N k (W.putObj q o') := by
  obtain ⟨⟨X, v, h1, h2, h3, h4⟩, c, e, f⟩ := h
  exact ⟨⟨X, v, blk_turn h1 ho hc, (keepC_turn ho hc (fun _ => False)).row h2 (fun _ _ => id), h3, h4⟩, blk_turn c ho hc, keep_turn e hq, f⟩
/-- what take leaves -/
structure LT (R : Nat → Prop) (w w' : World) (G : Nat → Prop) (b : Nat) (l : List Msg) (room at' N : Int) (v : Value) (X : List RM) : Prop where
  ex : ∃ k v', PAt R w' G b v' (l.drop k) room ∧ (l.drop k).map toR = sorted X ∧ k ≤ dueN l at' ∧ (k = dueN l at' ∨ (1 ≤ k ∧ (k : Int) = N))
  row : ROwn w' v X
  far : ∀ g, v.ownBlock = some g → ¬ G g
  kp : Keep G w w'
set_option maxRecDepth 100000 in
set_option maxHeartbeats 8000000 in
theorem ltake_any {R : Nat → Prop} {G : Nat → Prop} (b : Nat) (v : Value) (l : List Msg) (room kd at' N : Int) (xv : Value) (X : List RM) (tA : Option Addr) (tn tc : Nat) (w : World) (h : PAt R w G b v l room) (hG : ∀ q, G q ∨ R q → q < w.heap.size) (hn : l.length ≤ 10000) (hx : ROwn w xv X) (hxg : ∀ g, xv.ownBlock = some g → ¬ G g) (hr : l.map toR = sorted X) :
    Calls Try.prog 16 #[.pointer (some ⟨b, 0, none⟩), xv, .agg #[.int .i64 kd, .int .i64 at', .int .i64 N, .slice tA tn tc]] w fun e w' => ∃ v' X', e = .returned (.tuple #[v', .bool true]) ∧ LT R w w' G b l room at' N v' X' := by
  obtain ⟨A, k0, rfl⟩ := h.slice
  obtain ⟨xA, xk, rfl⟩ := ownsRow_slice hx
  have H := Lib.hid h
  have HX := Lib.hid hx
  have HXG := Lib.hid hxg
  have HRL := Lib.hid hr
  have HGL : Hid (∀ q, G q → q < w.heap.size) := fun q hq => hG q (.inl hq)
  have HGR : Hid (∀ q, G q ∨ R q → q < w.heap.size) := hG
  have HFA := Lib.hid @first_any
  have HWA := Lib.hid @without_any
  have hbx := boxes5 w #[.slice xA X.length xk] #[.int .i64 kd, .int .i64 at', .int .i64 N, .slice tA tn tc] #[.slice none 0 0] #[.bool false] #[.int .i64 0] 33 35 33 4 3
  obtain ⟨wz, hwz⟩ : ∃ wz, wz = ((((w.alloc (.cells #[.slice xA X.length xk] 33)).alloc (.cells #[.int .i64 kd, .int .i64 at', .int .i64 N, .slice tA tn tc] 35)).alloc (.cells #[.slice none 0 0] 33)).alloc (.cells #[.bool false] 4)).alloc (.cells #[.int .i64 0] 3) := ⟨_, rfl⟩
  rw [← hwz] at hbx
  have HBX := Lib.hid hbx
  have HWZ := Lib.hid hwz
  clear h hx hxg hr hG hbx hwz
  refine callsIn_wide.1 (callsIn_of_wp_marks (F := Fence.wide) (n := 9) Try.func16 rfl trivial ?_)
  rw [wpIn_wide]
  simp only [Try.ntmps16, List.size_toArray, List.length_cons, List.length_nil, Nat.reduceAdd, Nat.reduceSub, Array.replicate_succ, Array.replicate_zero, List.push_toArray, List.append_toArray, List.nil_append, List.cons_append]
  go_wp2_with fail
  rw [← HWZ.out]
  obtain ⟨p4, hp4⟩ : ∃ p4, p4 = w.heap.size := ⟨_, rfl⟩
  obtain ⟨p5, hp5⟩ : ∃ p5, p5 = w.heap.size + 1 := ⟨_, rfl⟩
  obtain ⟨p6, hp6⟩ : ∃ p6, p6 = w.heap.size + 1 + 1 := ⟨_, rfl⟩
  obtain ⟨p7, hp7⟩ : ∃ p7, p7 = w.heap.size + 1 + 1 + 1 := ⟨_, rfl⟩
  obtain ⟨p8, hp8⟩ : ∃ p8, p8 = w.heap.size + 1 + 1 + 1 + 1 := ⟨_, rfl⟩
  rw [← hp8, ← hp7, ← hp6, ← hp5, ← hp4]
  have HLX : Hid (∀ v', Blk wz p4 #[v'] 33 → ∀ g, v'.ownBlock = some g → g < w.heap.size) := fun v' hv' g hg => by
    obtain ⟨b4, -⟩ := HBX.out
    rw [← hp4] at b4
    have e3 : (some (Obj.cells #[v'] 33) : Option Obj) = some (Obj.cells #[.slice xA X.length xk] 33) := hv'.symm.trans b4
    cases e3
    exact (HX.out.lt g hg).2
  have HP := Lib.hid (And.intro hp4 (And.intro hp5 (And.intro hp6 (And.intro hp7 hp8))))
  have HPB : Hid (∀ q, q = p4 ∨ q = p5 ∨ q = p6 ∨ q = p7 ∨ q = p8 → w.heap.size ≤ q ∧ q < w.heap.size + 5) := fun q hq => by omega
  have HLI : Hid (∀ N6, N6 ≤ wz.heap.size → LI w G N6 p4 p5 p6 p7 p8 l #[.int .i64 kd, .int .i64 at', .int .i64 N, .slice tA tn tc] N 0 wz) := fun N6 hN6 => by
    obtain ⟨b4, b5, b6, b7, b8, hb, hz⟩ := HBX.out
    subst hp4 hp5 hp6 hp7 hp8
    exact ⟨⟨X, _, b4, ownsRow_keep HX.out (Keep.none hb) (fun _ _ => id), fun g hg => ⟨HXG.out g hg, .inl (HX.out.lt g hg).2⟩, HRL.out⟩, b5, b6, b7, b8, Keep.ofBelowAll hb, .inl rfl, hN6⟩
  have HBZ := Lib.hid HBX.out.2.2.2.2.2.1
  have HZZ := Lib.hid HBX.out.2.2.2.2.2.2
  have HPZ := Lib.hid (H.out.below HBZ.out)
  clear hp4 hp5 hp6 hp7 hp8 HBX HWZ H
  refine (take_any b at' wz).mono ?_
  rintro e w6 ⟨rfl, hpb, hpn, hb6⟩
  have HKB := Lib.hid hpb
  have HKN := Lib.hid hpn
  have HP6 := Lib.hid (HPZ.out.below hb6)
  have HLI6 : Hid (LI w G w6.heap.size p4 p5 p6 p7 p8 l #[.int .i64 kd, .int .i64 at', .int .i64 N, .slice tA tn tc] N 0 w6) := by
    obtain ⟨xs, a1, a2, a3, a4, a5, a6, a7⟩ := (HLI.out _ (Nat.le_refl _)).keep (S := fun _ => False) (fun q hq => (HPB.out q hq).1) HGL.out (Keep.none hb6) (fun _ h => h.elim)
    obtain ⟨X', v', g1, g2, g3, g4⟩ := xs
    exact ⟨⟨X', v', g1, g2, fun g hg => ⟨(g3 g hg).1, .inl (HLX.out v' ((hb6.block p4 (by have := HZZ.out; have := HP.out; omega)).symm.trans g1) g hg)⟩, g4⟩, a1, a2, a3, a4, a5, a6, Nat.le_refl _⟩
  have HB6 := Lib.hid (bmore HBZ.out hb6 HBZ.out.size)
  have HZ6 : Hid (wz.heap.size + 1 < w6.heap.size ∧ wz.heap.size = w.heap.size + 5) := ⟨hpn.lt, HZZ.out⟩
  clear hpb hpn hb6 HLI HPZ HZZ HBZ
  have HSEQ := Lib.hid (take_seq (9 - 1) (by omega) wz.heap.size (wz.heap.size + 1) b (Value.slice A l.length k0).ownBlock l room at' G (fun q => q = p4 ∨ q = p6 ∨ q = p7 ∨ q = p8 ∨ w6.heap.size ≤ q) w6
    (fun q hq => ⟨fun e => by have h1 := HGR.out q hq; have h2 := HZ6.out; have h3 := HPB.out; rcases e with e | e | e | e | e; exact absurd (h3 q (by simp [e])).1 (by omega); exact absurd (h3 q (by simp [e])).1 (by omega); exact absurd (h3 q (by simp [e])).1 (by omega); exact absurd (h3 q (by simp [e])).1 (by omega); omega, by have := HGR.out q hq; have := HZ6.out; omega⟩) HP6.out.gb HP6.out.gv
    ⟨fun e => by have := HGL.out _ e; have := HZ6.out; omega, fun e => by have h2 := HZ6.out; have h3 := HP.out; omega⟩ ⟨fun e => by have := HGL.out _ e; have := HZ6.out; omega, fun e => by have h2 := HZ6.out; have h3 := HP.out; omega⟩ (by omega) HKB.out HKN.out ⟨_, HP6.out, rfl⟩)
  go_wp2_with fail
  refine (wpIn_wide (n := 9)).1 ?_
  refine' wpIn_rangeOwnY (F := Fence.wide) (n := 9) rfl (by omega) (gf := 28) (lb := #[.pointer (some ⟨wz.heap.size, 0, none⟩), .pointer (some ⟨wz.heap.size + 1, 0, none⟩)]) rfl trivial (enters_of Try.func28 (by kernel_rfl) rfl)
    HSEQ.out (fun pre x N W l o o' h hl ho hc => h.turn ho hc) (fun h k => h.trans k) (fun W l o o' hl ho hc => keepC_turn ho hc _)
    (fun q hq => by have h2 := HZ6.out; exact hq.elim (fun e => by have := HGL.out q (e ▸ HP6.out.gb); omega) (fun e => by have := HGL.out q (HP6.out.gv q e); omega)) (fun _ => rfl)
    (fun xs W l o o' h hl ho hc => ⟨h.1.turn ho hc, h.2⟩) (fun pre W l o o' h hl ho hc => ⟨h.1.turn ho hc, h.2⟩)
    (fun pre W => LI w G w6.heap.size p4 p5 p6 p7 p8 l #[.int .i64 kd, .int .i64 at', .int .i64 N, .slice tA tn tc] N pre.length W) (fun c pre W => c = .ret ∧ LR w G w6.heap.size p6 p7 l N pre.length W)
    (fun pre W l o o' h hl ho hc => h.turn (Nat.le_trans HB6.out.size hl) ho hc) (fun c pre W l o o' h hl ho hc => ⟨h.1, h.2.turn (Nat.le_trans HB6.out.size hl) ho hc⟩)
    (fun pre A B h k => h.keep (fun q hq => (HPB.out q hq).1) HGL.out k (fun q hq => hq.elim (fun e => by rw [e]; exact HP6.out.gb) (fun e => HP6.out.gv q e)))
    HLI6.out _ ?assign ?body ?done ?stop
  case assign =>
    intro l x W K hK
    gi_wp2
    exact hK
  case body =>
    rintro lr pre ⟨yA, yn, yc, ybs⟩ W0 W hi0 hkc hi hy
    obtain ⟨⟨m, hm, hmd, hxb⟩, hyo, hyl, hyn, hyt⟩ := hy
    dsimp only at hxb hyo hyl hyn
    have hdr := drop_cons hm
    have hp := HP.out
    have hz6 := HZ6.out
    have hnT : ∀ q, w.heap.size ≤ q → ¬ (q = b ∨ (Value.slice A l.length k0).ownBlock = some q) := fun q hq e => by
      have := HGL.out q (e.elim (fun e => by rw [e]; exact HP6.out.gb) (fun e => HP6.out.gv q e)); omega
    obtain ⟨X1, v1, h1, h2, h3, h4⟩ := hi.xs
    have hfar : ∀ g, v1.ownBlock = some g → g < W0.heap.size := by
      obtain ⟨X0, v0, g1, g2, g3, g4⟩ := hi0.xs
      have e1 := hkc.blk g1 (hnT p4 (by omega))
      have e2 : v0 = v1 := by
        have e3 : (some (Obj.cells #[v0] 33) : Option Obj) = some (Obj.cells #[v1] 33) := e1.symm.trans h1
        cases e3; rfl
      intro g hg
      rw [← e2] at hg
      exact (g2.lt g hg).2
    rw [hdr] at h4
    obtain ⟨i, hil, hif, hXi, ht⟩ := head_first h4
    obtain ⟨A1, c1, rfl⟩ := ownsRow_slice h2
    have hX1l : X1.length ≤ 10000 := by
      have := sorted_len X1
      rw [← h4, List.length_map, ← hdr, List.length_drop] at this
      omega
    have HH1 := Lib.hid h1
    have HH2 := Lib.hid h2
    have HH3 := Lib.hid h3
    have HT := Lib.hid ht
    have HFAR := Lib.hid hfar
    have HI := Lib.hid hi
    have HYO := Lib.hid hyo
    have HMB := Lib.hid hxb
    have HM := Lib.hid hm
    have HXI := Lib.hid hXi
    have hfa := HFA.out (.slice A1 X1.length c1) X1 W (ROwn.rat h2) (by omega)
    rw [hif] at hfa
    have HF1 := Lib.hid hfa
    have c4 : W.cell? ⟨p4, 0, none⟩ = some (.slice A1 X1.length c1) := h1.cell 0 rfl
    have HKN : Hid (∃ kn : Nat, kn = pre.length) := ⟨_, rfl⟩
    obtain ⟨kn, hkn⟩ := HKN.out
    have HKN2 := Lib.hid hkn
    have HWW : Hid (W0.heap.size ≤ W.heap.size) := hkc.1
    have HP0 : Hid (p4 < W0.heap.size ∧ p5 < W0.heap.size ∧ p6 < W0.heap.size ∧ p7 < W0.heap.size ∧ p8 < W0.heap.size ∧ w6.heap.size ≤ W0.heap.size) := ⟨by obtain ⟨X0, v0, g1, -⟩ := hi0.xs; exact g1.lt, hi0.op.lt, hi0.r6.lt, hi0.r7.lt, hi0.kb.lt, hi0.sz⟩
    clear hm hdr hp hz6 hnT h1 h2 h3 h4 hfar hi hi0 hkc hyo hyt hfa hif ht hxb hXi hkn HKN
    gi_wp2
    refine ⟨trivial, (CallsIn.inRound lr (callsIn_wide.2 HF1.out)).mono ?_⟩
    rintro e w7 ⟨rfl, hb7⟩
    have HB7 := Lib.hid hb7
    have HI7 := Lib.hid (HI.out.keep (S := fun _ => False) (fun q hq => (HPB.out q hq).1) HGL.out (Keep.none hb7) (fun _ h => h.elim))
    have HR7 : Hid (ROwn w7 (.slice A1 X1.length c1) X1) := ownsRow_keep HH2.out (Keep.none hb7) (fun _ _ => id)
    have HY7 : Hid (w7.ownsRow W0.heap.size 5 1 (.slice yA yn yc) yn (u8s ybs)) := ownsRow_keep HYO.out (Keep.none hb7) (fun _ _ => id)
    have H47 : Hid (Blk w7 p4 #[.slice A1 X1.length c1] 33) := HH1.out.below hb7
    clear hb7 c4
    obtain ⟨g, p, cc, he, y0, y1⟩ := RAt.at HR7.out.rat HXI.out
    cases he
    have c4 : w7.cell? ⟨p4, 0, none⟩ = some (.slice (some ⟨g, p, none⟩) X1.length c1) := H47.out.cell 0 rfl
    have c51 : w7.cell? ⟨p5, 1, none⟩ = some (.int .i64 at') := HI7.out.op.cell 1 rfl
    have hcv : (convert 28 9 (.slice yA yn yc)).run Try.prog w7.drew = .ok (.string (strOfNums m.bs)) w7.drew := by
      rw [← HMB.out]
      exact conv_ints (Reads.of_owns (show w7.drew.ownsRow _ _ _ _ _ _ from HY7.out))
    have d1 : decide ((i : Int) < 0) = false := decide_eq_false (by omega)
    have d2 : decide (at' < m.due) = false := decide_eq_false (by omega)
    have i1 : (0 : Int) ≤ (i : Int) := by omega
    have i2 : (i : Int) < (X1.length : Int) := by omega
    replace y0 : w7.cell? ⟨g, p + i * 2, none⟩ = some (.int .i64 m.due) := y0
    replace y1 : w7.cell? ⟨g, p + i * 2 + 1, none⟩ = some (.string (strOfNums m.bs)) := y1
    gi_wp2
    --DET5
    refine wpIn_region_det (by kernel_rfl) (by kernel_rfl) ?_
    refine det_take (i := 0) (oi := { dst := some 20, op := Op.move (Operand.tmp 10), type := 3, pos := "law.go:35", after := #[], guard := none }) (v := ?_) rfl (by kernel_rfl) (by kernel_rfl) (by kernel_rfl) (Or.inl ⟨by rfl, ?_, by rfl⟩) ?_
    rotate_left 1
    · (go_simp <;> with_reducible rfl)
    (try simp only [Act.put, List.setIfInBounds_toArray, List.set_cons_zero, List.set_cons_succ])
    refine det_take (i := 1) (oi := { dst := some 21, op := Op.binOp BinOp.lss 3 (Operand.tmp 20) (Operand.const (Value.int IntKind.i64 0)) 3, type := 4, pos := "law.go:35", after := #[{ on := 0, ground := Ground.data }], guard := none }) (v := ?_) rfl (by kernel_rfl) (by kernel_rfl) (by kernel_rfl) (Or.inl ⟨by rfl, ?_, by rfl⟩) ?_
    rotate_left 1
    · (go_simp <;> with_reducible rfl)
    (try simp only [Act.put, List.setIfInBounds_toArray, List.set_cons_zero, List.set_cons_succ])
    refine det_take (i := 2) (oi := { dst := some 22, op := Op.move (Operand.tmp 21), type := 4, pos := "law.go:35", after := #[{ on := 1, ground := Ground.data }], guard := none }) (v := ?_) rfl (by kernel_rfl) (by kernel_rfl) (by kernel_rfl) (Or.inl ⟨by rfl, ?_, by rfl⟩) ?_
    rotate_left 1
    · (go_simp <;> with_reducible rfl)
    (try simp only [Act.put, List.setIfInBounds_toArray, List.set_cons_zero, List.set_cons_succ])
    refine det_take (i := 3) (oi := { dst := some 23, op := Op.load 33 (Operand.tmp 4), type := 33, pos := "law.go:35", after := #[{ on := 2, ground := Ground.guard }], guard := some (2, false) }) (v := ?_) rfl (by kernel_rfl) (by kernel_rfl) (by kernel_rfl) (Or.inl ⟨by rfl, ?_, by rfl⟩) ?_
    rotate_left 1
    · (go_simp <;> with_reducible rfl)
    (try simp only [Act.put, List.setIfInBounds_toArray, List.set_cons_zero, List.set_cons_succ])
    refine det_take (i := 4) (oi := { dst := some 24, op := Op.move (Operand.tmp 10), type := 3, pos := "law.go:35", after := #[{ on := 2, ground := Ground.guard }], guard := some (2, false) }) (v := ?_) rfl (by kernel_rfl) (by kernel_rfl) (by kernel_rfl) (Or.inl ⟨by rfl, ?_, by rfl⟩) ?_
    rotate_left 1
    · (go_simp <;> with_reducible rfl)
    (try simp only [Act.put, List.setIfInBounds_toArray, List.set_cons_zero, List.set_cons_succ])
    refine det_take (i := 5) (oi := { dst := some 25, op := Op.indexAddr 33 (Operand.tmp 23) (Operand.tmp 24), type := 0, pos := "law.go:35", after := #[{ on := 3, ground := Ground.data }, { on := 4, ground := Ground.data }, { on := 2, ground := Ground.guard }], guard := some (2, false) }) (v := ?_) rfl (by kernel_rfl) (by kernel_rfl) (by kernel_rfl) (Or.inl ⟨by rfl, ?_, by rfl⟩) ?_
    rotate_left 1
    · (go_simp <;> with_reducible rfl)
    (try simp only [Act.put, List.setIfInBounds_toArray, List.set_cons_zero, List.set_cons_succ])
    refine det_take (i := 6) (oi := { dst := some 26, op := Op.fieldAddr 56 (Operand.tmp 25) 0, type := 0, pos := "law.go:35", after := #[{ on := 5, ground := Ground.data }, { on := 2, ground := Ground.guard }], guard := some (2, false) }) (v := ?_) rfl (by kernel_rfl) (by kernel_rfl) (by kernel_rfl) (Or.inl ⟨by rfl, ?_, by rfl⟩) ?_
    rotate_left 1
    · (go_simp <;> with_reducible rfl)
    (try simp only [Act.put, List.setIfInBounds_toArray, List.set_cons_zero, List.set_cons_succ])
    refine det_take (i := 7) (oi := { dst := some 27, op := Op.load 3 (Operand.tmp 26), type := 3, pos := "law.go:35", after := #[{ on := 6, ground := Ground.data }, { on := 2, ground := Ground.guard }], guard := some (2, false) }) (v := ?_) rfl (by kernel_rfl) (by kernel_rfl) (by kernel_rfl) (Or.inl ⟨by rfl, ?_, by rfl⟩) ?_
    rotate_left 1
    · (go_simp <;> with_reducible rfl)
    (try simp only [Act.put, List.setIfInBounds_toArray, List.set_cons_zero, List.set_cons_succ])
    refine det_take (i := 8) (oi := { dst := some 28, op := Op.fieldAddr 35 (Operand.tmp 5) 1, type := 0, pos := "law.go:35", after := #[{ on := 2, ground := Ground.guard }], guard := some (2, false) }) (v := ?_) rfl (by kernel_rfl) (by kernel_rfl) (by kernel_rfl) (Or.inl ⟨by rfl, ?_, by rfl⟩) ?_
    rotate_left 1
    · (go_simp <;> with_reducible rfl)
    (try simp only [Act.put, List.setIfInBounds_toArray, List.set_cons_zero, List.set_cons_succ])
    refine det_take (i := 9) (oi := { dst := some 29, op := Op.load 3 (Operand.tmp 28), type := 3, pos := "law.go:35", after := #[{ on := 8, ground := Ground.data }, { on := 2, ground := Ground.guard }], guard := some (2, false) }) (v := ?_) rfl (by kernel_rfl) (by kernel_rfl) (by kernel_rfl) (Or.inl ⟨by rfl, ?_, by rfl⟩) ?_
    rotate_left 1
    · (go_simp <;> with_reducible rfl)
    (try simp only [Act.put, List.setIfInBounds_toArray, List.set_cons_zero, List.set_cons_succ])
    refine det_take (i := 10) (oi := { dst := some 30, op := Op.binOp BinOp.gtr 3 (Operand.tmp 27) (Operand.tmp 29) 3, type := 4, pos := "law.go:35", after := #[{ on := 7, ground := Ground.data }, { on := 9, ground := Ground.data }, { on := 2, ground := Ground.guard }], guard := some (2, false) }) (v := ?_) rfl (by kernel_rfl) (by kernel_rfl) (by kernel_rfl) (Or.inl ⟨by rfl, ?_, by rfl⟩) ?_
    rotate_left 1
    · (go_simp <;> with_reducible rfl)
    (try simp only [Act.put, List.setIfInBounds_toArray, List.set_cons_zero, List.set_cons_succ])
    refine det_take (i := 11) (oi := { dst := some 31, op := Op.pick (Operand.tmp 22) (Operand.const (Value.bool true)) (Operand.tmp 30), type := 4, pos := "law.go:35", after := #[{ on := 2, ground := Ground.data }, { on := 10, ground := Ground.data }], guard := none }) (v := ?_) rfl (by kernel_rfl) (by kernel_rfl) (by kernel_rfl) (Or.inl ⟨by rfl, ?_, by rfl⟩) ?_
    rotate_left 1
    · (go_simp <;> with_reducible rfl)
    (try simp only [Act.put, List.setIfInBounds_toArray, List.set_cons_zero, List.set_cons_succ])
    refine det_take (i := 12) (oi := { dst := some 32, op := Op.move (Operand.tmp 31), type := 4, pos := "law.go:35", after := #[{ on := 11, ground := Ground.data }, { on := 2, ground := Ground.chain }], guard := none }) (v := ?_) rfl (by kernel_rfl) (by kernel_rfl) (by kernel_rfl) (Or.inl ⟨by rfl, ?_, by rfl⟩) ?_
    rotate_left 1
    · (go_simp <;> with_reducible rfl)
    (try simp only [Act.put, List.setIfInBounds_toArray, List.set_cons_zero, List.set_cons_succ])
    refine det_take (i := 13) (oi := { dst := some 33, op := Op.load 33 (Operand.tmp 4), type := 33, pos := "law.go:35", after := #[{ on := 12, ground := Ground.guard }], guard := some (12, false) }) (v := ?_) rfl (by kernel_rfl) (by kernel_rfl) (by kernel_rfl) (Or.inl ⟨by rfl, ?_, by rfl⟩) ?_
    rotate_left 1
    · (go_simp <;> with_reducible rfl)
    (try simp only [Act.put, List.setIfInBounds_toArray, List.set_cons_zero, List.set_cons_succ])
    refine det_take (i := 14) (oi := { dst := some 34, op := Op.move (Operand.tmp 10), type := 3, pos := "law.go:35", after := #[{ on := 12, ground := Ground.guard }], guard := some (12, false) }) (v := ?_) rfl (by kernel_rfl) (by kernel_rfl) (by kernel_rfl) (Or.inl ⟨by rfl, ?_, by rfl⟩) ?_
    rotate_left 1
    · (go_simp <;> with_reducible rfl)
    (try simp only [Act.put, List.setIfInBounds_toArray, List.set_cons_zero, List.set_cons_succ])
    refine det_take (i := 15) (oi := { dst := some 35, op := Op.indexAddr 33 (Operand.tmp 33) (Operand.tmp 34), type := 0, pos := "law.go:35", after := #[{ on := 13, ground := Ground.data }, { on := 14, ground := Ground.data }, { on := 12, ground := Ground.guard }], guard := some (12, false) }) (v := ?_) rfl (by kernel_rfl) (by kernel_rfl) (by kernel_rfl) (Or.inl ⟨by rfl, ?_, by rfl⟩) ?_
    rotate_left 1
    · (go_simp <;> with_reducible rfl)
    (try simp only [Act.put, List.setIfInBounds_toArray, List.set_cons_zero, List.set_cons_succ])
    refine det_take (i := 16) (oi := { dst := some 36, op := Op.fieldAddr 56 (Operand.tmp 35) 1, type := 0, pos := "law.go:35", after := #[{ on := 15, ground := Ground.data }, { on := 12, ground := Ground.guard }], guard := some (12, false) }) (v := ?_) rfl (by kernel_rfl) (by kernel_rfl) (by kernel_rfl) (Or.inl ⟨by rfl, ?_, by rfl⟩) ?_
    rotate_left 1
    · (go_simp <;> with_reducible rfl)
    (try simp only [Act.put, List.setIfInBounds_toArray, List.set_cons_zero, List.set_cons_succ])
    refine det_take (i := 17) (oi := { dst := some 37, op := Op.load 9 (Operand.tmp 36), type := 9, pos := "law.go:35", after := #[{ on := 16, ground := Ground.data }, { on := 12, ground := Ground.guard }], guard := some (12, false) }) (v := ?_) rfl (by kernel_rfl) (by kernel_rfl) (by kernel_rfl) (Or.inl ⟨by rfl, ?_, by rfl⟩) ?_
    rotate_left 1
    · (go_simp <;> with_reducible rfl)
    (try simp only [Act.put, List.setIfInBounds_toArray, List.set_cons_zero, List.set_cons_succ])
    refine det_take (i := 18) (oi := { dst := some 38, op := Op.move (Operand.tmp 9), type := 28, pos := "law.go:35", after := #[{ on := 12, ground := Ground.guard }], guard := some (12, false) }) (v := ?_) rfl (by kernel_rfl) (by kernel_rfl) (by kernel_rfl) (Or.inl ⟨by rfl, ?_, by rfl⟩) ?_
    rotate_left 1
    · (go_simp <;> with_reducible rfl)
    (try simp only [Act.put, List.setIfInBounds_toArray, List.set_cons_zero, List.set_cons_succ])
    refine det_take (i := 19) (oi := { dst := some 39, op := Op.convert 28 9 (Operand.tmp 38), type := 9, pos := "law.go:35", after := #[{ on := 18, ground := Ground.data }, { on := 12, ground := Ground.guard }], guard := some (12, false) }) (v := ?_) rfl (by kernel_rfl) (by kernel_rfl) (by kernel_rfl) (Or.inl ⟨by rfl, ?_, by rfl⟩) ?_
    rotate_left 1
    · (go_simp <;> with_reducible rfl)
    (try simp only [Act.put, List.setIfInBounds_toArray, List.set_cons_zero, List.set_cons_succ])
    refine det_take (i := 20) (oi := { dst := some 40, op := Op.binOp BinOp.neq 9 (Operand.tmp 37) (Operand.tmp 39) 9, type := 4, pos := "law.go:35", after := #[{ on := 17, ground := Ground.data }, { on := 19, ground := Ground.data }, { on := 12, ground := Ground.guard }], guard := some (12, false) }) (v := ?_) rfl (by kernel_rfl) (by kernel_rfl) (by kernel_rfl) (Or.inl ⟨by rfl, ?_, by rfl⟩) ?_
    rotate_left 1
    · (go_simp <;> with_reducible rfl)
    (try simp only [Act.put, List.setIfInBounds_toArray, List.set_cons_zero, List.set_cons_succ])
    refine det_take (i := 21) (oi := { dst := some 41, op := Op.pick (Operand.tmp 32) (Operand.const (Value.bool true)) (Operand.tmp 40), type := 4, pos := "law.go:35", after := #[{ on := 12, ground := Ground.data }, { on := 20, ground := Ground.data }], guard := none }) (v := ?_) rfl (by kernel_rfl) (by kernel_rfl) (by kernel_rfl) (Or.inl ⟨by rfl, ?_, by rfl⟩) ?_
    rotate_left 1
    · (go_simp <;> with_reducible rfl)
    (try simp only [Act.put, List.setIfInBounds_toArray, List.set_cons_zero, List.set_cons_succ])
    refine det_done (by kernel_rfl) ?_
    have HI8 : Hid (LI w G w6.heap.size p4 p5 p6 p7 p8 l #[.int .i64 kd, .int .i64 at', .int .i64 N, .slice tA tn tc] N pre.length w7.drew) := HI7.out.keep (S := fun _ => False) (fun q hq => (HPB.out q hq).1) HGL.out (Keep.refl _ w7).drew (fun _ h => h.elim)
    have H48 : Hid (Blk w7.drew p4 #[(.slice (some ⟨g, p, none⟩) X1.length c1)] 33) := H47.out
    have HR8 : Hid (ROwn w7.drew (.slice (some ⟨g, p, none⟩) X1.length c1) X1) := HR7.out
    have HY8 : Hid (∃ bs' : List Int, bs'.length = yn ∧ w7.drew.ownsRow W0.heap.size 5 1 (.slice yA yn yc) yn (u8s bs')) := ⟨ybs, hyl, HY7.out⟩
    have HKO8 : Hid (KeepsOthers W w7.drew) := ⟨HB7.out.size, fun k o hk _ => (HB7.out.block k (Array.getElem?_eq_some_iff.1 hk).1).trans hk⟩
    have HKC8 : Hid (KeepC (fun q => q = p4 ∨ q = p6 ∨ q = p7 ∨ q = p8 ∨ w6.heap.size ≤ q) W w7.drew) := (KeepC.refl _ W).below (below_drewN HB7.out 1)
    have HW08 : Hid (W0.heap.size ≤ w7.drew.heap.size) := Nat.le_trans HWW.out HB7.out.size
    clear y0 y1 c4 c51 hcv HI7 H47 HR7 HY7 HB7 HI HYO HH1 HH2 HF1 hyl
    gi_wp2
    gi_loopw [45] (fun j wr => ∃ jn : Nat, jn ≤ yn ∧ j = .int .i64 jn ∧ Hid (LI w G w6.heap.size p4 p5 p6 p7 p8 l #[.int .i64 kd, .int .i64 at', .int .i64 N, .slice tA tn tc] N pre.length wr) ∧ Hid (Blk wr p4 #[(.slice (some ⟨g, p, none⟩) X1.length c1)] 33) ∧ Hid (ROwn wr (.slice (some ⟨g, p, none⟩) X1.length c1) X1) ∧ Hid (∃ bs' : List Int, bs'.length = yn ∧ wr.ownsRow W0.heap.size 5 1 (.slice yA yn yc) yn (u8s bs')) ∧ Hid (KeepsOthers W wr) ∧ Hid (KeepC (fun q => q = p4 ∨ q = p6 ∨ q = p7 ∨ q = p8 ∨ w6.heap.size ≤ q) W wr) ∧ Hid (W0.heap.size ≤ wr.heap.size)) (fun j _ => yn - (intOf j).toNat)
    case atStart => exact ⟨0, Nat.zero_le _, rfl, HI8, H48, HR8, HY8, HKO8, HKC8, HW08⟩
    case round =>
      obtain ⟨jn, hjn, rfl, HIr, H4r, HRr, HYr, HKOr, HKCr, HW0r⟩ := hrel
      by_cases hlt : jn < yn
      · obtain ⟨bs', hbl, hrow⟩ := HYr.out
        have hsl : ∃ g2, yA = some ⟨g2, 0, none⟩ ∧ W0.heap.size ≤ g2 := by
          rcases hrow.2 with ⟨hv, h0⟩ | ⟨g', cap, cur, hv, hg, -⟩
          · omega
          · cases hv; exact ⟨g', rfl, hg⟩
        obtain ⟨g2, rfl, hg2⟩ := hsl
        obtain ⟨u, hu⟩ : ∃ u, bs'[jn]? = some u := ⟨_, List.getElem?_eq_getElem (by omega)⟩
        have y0 := ownsRow_cell hrow (j := jn) (u := .int .u8 u) (by unfold u8s; rw [List.getElem?_map, hu]; rfl)
        have hfz := ownsRow_frozen hrow jn
        have HRW := Lib.hid hrow
        have HG2 := Lib.hid hg2
        have HBL := Lib.hid hbl
        have j1 : (0 : Int) ≤ (jn : Int) := by omega
        have j2 : (jn : Int) < (yn : Int) := by omega
        clear hbl hrow hg2 hu
        have hkS : Keep (fun q => q = g2) wr (wr.setCell ⟨g2, jn, none⟩ (.int .u8 ((u + 1) % 256))) := (Keep.refl (fun q => q = g2) wr).setCell (p := ⟨g2, jn, none⟩) (.inl rfl) _
        have hp0 := HP0.out
        have hg2 := HG2.out
        have hpp := HP.out
        have HI9 : Hid (LI w G w6.heap.size p4 p5 p6 p7 p8 l #[.int .i64 kd, .int .i64 at', .int .i64 N, .slice tA tn tc] N pre.length (wr.setCell ⟨g2, jn, none⟩ (.int .u8 ((u + 1) % 256)))) := HIr.out.keep2 hkS (fun q hq e => by rcases hq with h | h | h | h | h <;> omega) (fun v hv g' hg' e => by
            have e3 : (some (Obj.cells #[v] 33) : Option Obj) = some (Obj.cells #[(.slice (some ⟨g, p, none⟩) X1.length c1)] 33) := hv.symm.trans H4r.out
            cases e3
            have := HFAR.out g' hg'; omega) (fun q hq e => by omega)
        have H49 : Hid (Blk (wr.setCell ⟨g2, jn, none⟩ (.int .u8 ((u + 1) % 256))) p4 #[(.slice (some ⟨g, p, none⟩) X1.length c1)] 33) := H4r.out.keep hkS (by omega)
        have HR9 : Hid (ROwn (wr.setCell ⟨g2, jn, none⟩ (.int .u8 ((u + 1) % 256))) (.slice (some ⟨g, p, none⟩) X1.length c1) X1) := ownsRow_keep HRr.out hkS (fun g' hg' e => by have := HFAR.out g' hg'; omega)
        have HY9 : Hid (∃ bs'' : List Int, bs''.length = yn ∧ (wr.setCell ⟨g2, jn, none⟩ (.int .u8 ((u + 1) % 256))).ownsRow W0.heap.size 5 1 (.slice (some ⟨g2, 0, none⟩) yn yc) yn (u8s bs'')) := ⟨bs'.set jn ((u + 1) % 256), by rw [List.length_set]; exact HBL.out, by
          have h9 := bytes_set HRW.out hlt (.int .u8 ((u + 1) % 256))
          rw [show (u8s bs').set jn (.int .u8 ((u + 1) % 256)) = u8s (bs'.set jn ((u + 1) % 256)) from (List.map_set).symm] at h9
          exact h9⟩
        have HKO9 : Hid (KeepsOthers W (wr.setCell ⟨g2, jn, none⟩ (.int .u8 ((u + 1) % 256)))) := HKOr.out.trans (KeepsOthers.setCell _ _ _)
        have HKC9 : Hid (KeepC (fun q => q = p4 ∨ q = p6 ∨ q = p7 ∨ q = p8 ∨ w6.heap.size ≤ q) W (wr.setCell ⟨g2, jn, none⟩ (.int .u8 ((u + 1) % 256)))) := HKCr.out.setCell (p := ⟨g2, jn, none⟩) (.inr (.inr (.inr (.inr (by show w6.heap.size ≤ g2; omega))))) _
        have HW09 : Hid (W0.heap.size ≤ (wr.setCell ⟨g2, jn, none⟩ (.int .u8 ((u + 1) % 256))).heap.size) := Nat.le_trans HW0r.out hkS.size
        clear hkS hp0 hg2 hpp
        gi_wp2
        go_roundw
        case rel => exact ⟨jn + 1, by omega, by go_num, HI9, H49, HR9, HY9, HKO9, HKC9, HW09⟩
        case measure => simp [intOf]; omega
      · obtain rfl : jn = yn := by omega
        obtain ⟨wb, hwb⟩ : ∃ wb : World, wb = wr := ⟨_, rfl⟩
        rw [← hwb] at HIr H4r HRr HKOr HKCr HW0r ⊢
        clear hwb HYr
        have c4 : wb.cell? ⟨p4, 0, none⟩ = some (.slice (some ⟨g, p, none⟩) X1.length c1) := H4r.out.cell 0 rfl
        have HWI := Lib.hid (HWA.out (.slice (some ⟨g, p, none⟩) X1.length c1) X1 i wb (ROwn.rat HRr.out) (by omega) hil)
        gi_wp2
        refine ⟨trivial, (CallsIn.inRound lr (callsIn_wide.2 HWI.out)).mono ?_⟩
        rintro e w9 ⟨A9, c9, rfl, ho9, hb9⟩
        have hpp := HP.out
        have hp0 := HP0.out
        have HI9 := Lib.hid (HIr.out.keep (S := fun _ => False) (fun q hq => (HPB.out q hq).1) HGL.out (Keep.none hb9) (fun _ h => h.elim))
        have H49 := Lib.hid (H4r.out.below hb9)
        have HO9 := Lib.hid ho9
        have HZ9 : Hid (w6.heap.size ≤ wb.heap.size ∧ wb.heap.size ≤ w9.heap.size) := ⟨by have := HW0r.out; omega, hb9.size⟩
        have HKO9 : Hid (KeepsOthers W w9) := keepsOthers_below HKOr.out hb9
        have HKC9 : Hid (KeepC (fun q => q = p4 ∨ q = p6 ∨ q = p7 ∨ q = p8 ∨ w6.heap.size ≤ q) W w9) := HKCr.out.below hb9
        clear c4 hb9 ho9 HIr H4r HRr HKOr HKCr HW0r HWI
        have c4 : w9.cell? ⟨p4, 0, none⟩ = some (.slice (some ⟨g, p, none⟩) X1.length c1) := H49.out.cell 0 rfl
        have f4 := H49.out.frozen 0
        have c8 : w9.cell? ⟨p8, 0, none⟩ = some (.int .i64 (pre.length : Int)) := HI9.out.kb.cell 0 rfl
        have f8 := HI9.out.kb.frozen 0
        have c52 : w9.cell? ⟨p5, 2, none⟩ = some (.int .i64 N) := HI9.out.op.cell 2 rfl
        have c6 : w9.cell? ⟨p6, 0, none⟩ = some (.slice none 0 0) := HI9.out.r6.cell 0 rfl
        have f6 := HI9.out.r6.frozen 0
        have c7 : w9.cell? ⟨p7, 0, none⟩ = some (.bool false) := HI9.out.r7.cell 0 rfl
        have f7 := HI9.out.r7.frozen 0
        have n48 : ¬ p4 = p8 := by omega
        have n84 : ¬ p8 = p4 := by omega
        have n45 : ¬ p4 = p5 := by omega
        have n54 : ¬ p5 = p4 := by omega
        have n58 : ¬ p5 = p8 := by omega
        have n85 : ¬ p8 = p5 := by omega
        have n46 : ¬ p4 = p6 := by omega
        have n64 : ¬ p6 = p4 := by omega
        have n68 : ¬ p6 = p8 := by omega
        have n86 : ¬ p8 = p6 := by omega
        have n47 : ¬ p4 = p7 := by omega
        have n74 : ¬ p7 = p4 := by omega
        have n78 : ¬ p7 = p8 := by omega
        have n87 : ¬ p8 = p7 := by omega
        have n67 : ¬ p6 = p7 := by omega
        have n76 : ¬ p7 = p6 := by omega
        have hpl : (pre.length : Int) < 100000 := by
          have := (List.getElem?_eq_some_iff.1 HM.out).1; omega
        have HROW : Hid (∀ (S : Nat → Prop) B, Keep S w9 B → (∀ q, S q → q < w.heap.size + 5) → ROwn B (.slice A9 (X1.eraseIdx i).length c9) (X1.eraseIdx i)) := fun S B hk hs => ownsRow_base (ownsRow_keep HO9.out hk (fun g' hg' e => by have h1 := (HO9.out.lt g' hg').1; have h2 := hs g' e; have h3 := HZ9.out; have h4 := HZ6.out; omega)) (Nat.zero_le _)
        have HFARN : Hid (∀ g', (Value.slice A9 (X1.eraseIdx i).length c9).ownBlock = some g' → ¬ G g' ∧ (g' < w.heap.size ∨ w6.heap.size ≤ g')) := fun g' hg' => by
          have h1 := (HO9.out.lt g' hg').1
          have h3 := HZ9.out
          have h4 := HZ6.out
          exact ⟨fun e => by have := HGL.out g' e; omega, .inr (by omega)⟩
        have hws : w.heap.size ≤ p4 ∧ w.heap.size ≤ p8 ∧ w.heap.size ≤ p6 ∧ w.heap.size ≤ p7 := by omega
        have HWS := Lib.hid hws
        by_cases hkN : (pre.length : Int) + 1 = N
        · have t1 : ((pre.length : Int) + 1 == N) = true := by simp [hkN]
          have hkF : Keep (fun q => q = p4 ∨ q = p8 ∨ q = p6 ∨ q = p7) w9 ((((w9.setCell ⟨p4, 0, none⟩ (.slice A9 (X1.eraseIdx i).length c9)).setCell ⟨p8, 0, none⟩ (.int .i64 ((pre.length : Int) + 1))).setCell ⟨p6, 0, none⟩ (.slice A9 (X1.eraseIdx i).length c9)).setCell ⟨p7, 0, none⟩ (.bool true)) :=
            ((((Keep.refl _ w9).setCell (p := ⟨p4, 0, none⟩) (.inl (.inl rfl)) _).setCell (p := ⟨p8, 0, none⟩) (.inl (.inr (.inl rfl))) _).setCell (p := ⟨p6, 0, none⟩) (.inl (.inr (.inr (.inl rfl)))) _).setCell (p := ⟨p7, 0, none⟩) (.inl (.inr (.inr (.inr rfl)))) _
          have HLR : Hid (LR w G w6.heap.size p6 p7 l N (pre.length + 1) ((((w9.setCell ⟨p4, 0, none⟩ (.slice A9 (X1.eraseIdx i).length c9)).setCell ⟨p8, 0, none⟩ (.int .i64 ((pre.length : Int) + 1))).setCell ⟨p6, 0, none⟩ (.slice A9 (X1.eraseIdx i).length c9)).setCell ⟨p7, 0, none⟩ (.bool true))) :=
            ⟨⟨X1.eraseIdx i, (.slice A9 (X1.eraseIdx i).length c9), (((HI9.out.r6.setOther (p := ⟨p4, 0, none⟩) n64 _).setOther (p := ⟨p8, 0, none⟩) n68 _).set' rfl).setOther (p := ⟨p7, 0, none⟩) n67 _, HROW.out _ _ hkF (fun q hq => by rcases hq with h | h | h | h <;> omega), HFARN.out, HT.out⟩,
              (((HI9.out.r7.setOther (p := ⟨p4, 0, none⟩) n74 _).setOther (p := ⟨p8, 0, none⟩) n78 _).setOther (p := ⟨p6, 0, none⟩) n76 _).set' rfl, HI9.out.kp.trans hkF (fun q hq e => by have := HWS.out; rcases e with h | h | h | h <;> omega), by omega, by omega⟩
          have HKO : Hid (KeepsOthers W ((((w9.setCell ⟨p4, 0, none⟩ (.slice A9 (X1.eraseIdx i).length c9)).setCell ⟨p8, 0, none⟩ (.int .i64 ((pre.length : Int) + 1))).setCell ⟨p6, 0, none⟩ (.slice A9 (X1.eraseIdx i).length c9)).setCell ⟨p7, 0, none⟩ (.bool true))) := (((HKO9.out.trans (KeepsOthers.setCell _ _ _)).trans (KeepsOthers.setCell _ _ _)).trans (KeepsOthers.setCell _ _ _)).trans (KeepsOthers.setCell _ _ _)
          have HKC : Hid (KeepC (fun q => q = p4 ∨ q = p6 ∨ q = p7 ∨ q = p8 ∨ w6.heap.size ≤ q) W ((((w9.setCell ⟨p4, 0, none⟩ (.slice A9 (X1.eraseIdx i).length c9)).setCell ⟨p8, 0, none⟩ (.int .i64 ((pre.length : Int) + 1))).setCell ⟨p6, 0, none⟩ (.slice A9 (X1.eraseIdx i).length c9)).setCell ⟨p7, 0, none⟩ (.bool true))) := (((HKC9.out.setCell (p := ⟨p4, 0, none⟩) (.inl rfl) _).setCell (p := ⟨p8, 0, none⟩) (.inr (.inr (.inr (.inl rfl)))) _).setCell (p := ⟨p6, 0, none⟩) (.inr (.inl rfl)) _).setCell (p := ⟨p7, 0, none⟩) (.inr (.inr (.inl rfl))) _
          clear hkF hpp hp0 hws hkN
          gi_wp2
          exact ⟨HKO.out, HKC.out, rfl, by rw [List.length_append]; exact HLR.out⟩
        · have t1 : ((pre.length : Int) + 1 == N) = false := by simpa using hkN
          have hkF : Keep (fun q => q = p4 ∨ q = p8) w9 ((w9.setCell ⟨p4, 0, none⟩ (.slice A9 (X1.eraseIdx i).length c9)).setCell ⟨p8, 0, none⟩ (.int .i64 ((pre.length : Int) + 1))) :=
            ((Keep.refl _ w9).setCell (p := ⟨p4, 0, none⟩) (.inl (.inl rfl)) _).setCell (p := ⟨p8, 0, none⟩) (.inl (.inr rfl)) _
          have HLN : Hid (LI w G w6.heap.size p4 p5 p6 p7 p8 l #[.int .i64 kd, .int .i64 at', .int .i64 N, .slice tA tn tc] N (pre.length + 1) ((w9.setCell ⟨p4, 0, none⟩ (.slice A9 (X1.eraseIdx i).length c9)).setCell ⟨p8, 0, none⟩ (.int .i64 ((pre.length : Int) + 1)))) :=
            ⟨⟨X1.eraseIdx i, (.slice A9 (X1.eraseIdx i).length c9), (H49.out.set' rfl).setOther (p := ⟨p8, 0, none⟩) n48 _, HROW.out _ _ hkF (fun q hq => by rcases hq with h | h <;> omega), HFARN.out, HT.out⟩,
              (HI9.out.op.setOther (p := ⟨p4, 0, none⟩) n54 _).setOther (p := ⟨p8, 0, none⟩) n58 _, (HI9.out.r6.setOther (p := ⟨p4, 0, none⟩) n64 _).setOther (p := ⟨p8, 0, none⟩) n68 _, (HI9.out.r7.setOther (p := ⟨p4, 0, none⟩) n74 _).setOther (p := ⟨p8, 0, none⟩) n78 _, (HI9.out.kb.setOther (p := ⟨p4, 0, none⟩) n84 _).set' rfl,
              HI9.out.kp.trans hkF (fun q hq e => by have := HWS.out; rcases e with h | h <;> omega), .inr (by omega), Nat.le_trans (Nat.le_trans HZ9.out.1 HZ9.out.2) hkF.size⟩
          have HKO : Hid (KeepsOthers W ((w9.setCell ⟨p4, 0, none⟩ (.slice A9 (X1.eraseIdx i).length c9)).setCell ⟨p8, 0, none⟩ (.int .i64 ((pre.length : Int) + 1)))) := (HKO9.out.trans (KeepsOthers.setCell _ _ _)).trans (KeepsOthers.setCell _ _ _)
          have HKC : Hid (KeepC (fun q => q = p4 ∨ q = p6 ∨ q = p7 ∨ q = p8 ∨ w6.heap.size ≤ q) W ((w9.setCell ⟨p4, 0, none⟩ (.slice A9 (X1.eraseIdx i).length c9)).setCell ⟨p8, 0, none⟩ (.int .i64 ((pre.length : Int) + 1)))) := (HKC9.out.setCell (p := ⟨p4, 0, none⟩) (.inl rfl) _).setCell (p := ⟨p8, 0, none⟩) (.inr (.inr (.inr (.inl rfl)))) _
          clear hkF hpp hp0 hws hkN
          gi_wp2
          exact ⟨HKO.out, HKC.out, by simp only [List.length_append]; exact HLN.out⟩
  case done =>
    rintro D xs W hD ⟨hT, hxs⟩ hi hK
    obtain ⟨X2, v2, h1, h2, h3, h4⟩ := hi.xs
    obtain ⟨A2, c2, rfl⟩ := ownsRow_slice h2
    have hX2l : X2.length ≤ 10000 := by
      have := sorted_len X2
      rw [← h4, List.length_map, List.length_drop] at this
      omega
    have hpp := HP.out
    have hz6 := HZ6.out
    have HI := Lib.hid hi
    have H4R := Lib.hid h4
    have H2R := Lib.hid h2
    have HFAR2 := Lib.hid (fun g' hg' => (⟨(h3 g' hg').1, by have := (h3 g' hg').2; omega⟩ : ¬ G g' ∧ (g' < w.heap.size ∨ w.heap.size + 5 ≤ g')))
    have HPT := Lib.hid hT
    have HKD := Lib.hid hK
    have HKD1 : Hid (xs.length ≤ dueN l at' ∧ (xs.length = dueN l at' ∨ (1 ≤ xs.length ∧ (xs.length : Int) = N))) := ⟨by omega, .inl hxs⟩
    have HDD : Hid (w.heap.size + 5 ≤ D ∧ D < W.heap.size) := ⟨by omega, (Array.getElem?_eq_some_iff.1 hK).1⟩
    have HE : Hid (∀ m, l[xs.length]? = some m → at' < m.due) := fun m hm => dueN_at (by rw [← hxs]; exact hm)
    have c4 : W.cell? ⟨p4, 0, none⟩ = some (.slice A2 X2.length c2) := h1.cell 0 rfl
    have H41 := Lib.hid h1
    have HF2 := Lib.hid (HFA.out (.slice A2 X2.length c2) X2 W (ROwn.rat h2) (by omega))
    clear hT hxs hi hK h2 h3 h4 h1 hD hz6 hpp
    go_wp2_with fail
    refine HF2.out.mono ?_
    rintro e W9 ⟨rfl, hb9⟩
    have hpp := HP.out
    replace H41 := Lib.hid (H41.out.below hb9)
    replace H2R := Lib.hid (ownsRow_keep H2R.out (Keep.none hb9) (fun _ _ => id) : W9.ownsRow 0 _ 2 _ X2.length (X2.flatMap rmCells))
    replace H2R : Hid (ROwn W9 (.slice A2 X2.length c2) X2) := H2R.out
    replace HPT := Lib.hid (HPT.out.keep (Keep.none hb9) (fun _ _ => id))
    replace HI := Lib.hid (HI.out.keep (S := fun _ => False) (fun q hq => (HPB.out q hq).1) HGL.out (Keep.none hb9) (fun _ h => h.elim))
    replace HKD := Lib.hid ((hb9.block D HDD.out.2).trans HKD.out)
    replace HDD : Hid (w.heap.size + 5 ≤ D ∧ D < W9.heap.size) := ⟨HDD.out.1, Nat.lt_of_lt_of_le HDD.out.2 hb9.size⟩
    clear hb9 c4 HF2
    obtain ⟨W, hW⟩ : ∃ W, W = W9 := ⟨_, rfl⟩
    rw [← hW] at H41 H2R HPT HI HKD HDD ⊢
    clear hW
    have hSW : Blk W.drew p4 #[.slice A2 X2.length c2] 33 ∧ Blk W.drew p5 #[.int .i64 kd, .int .i64 at', .int .i64 N, .slice tA tn tc] 35 ∧ ROwn W.drew (.slice A2 X2.length c2) X2 := ⟨H41.out, HI.out.op, H2R.out⟩
    have c6 : W.cell? ⟨p6, 0, none⟩ = some (.slice none 0 0) := HI.out.r6.cell 0 rfl
    have f6 : W.frozen? ⟨p6, 0, none⟩ = false := HI.out.r6.frozen 0
    have c7 : W.cell? ⟨p7, 0, none⟩ = some (.bool false) := HI.out.r7.cell 0 rfl
    have f7 : W.frozen? ⟨p7, 0, none⟩ = false := HI.out.r7.frozen 0
    have n64 : ¬ p6 = p4 := by omega
    have n46 : ¬ p4 = p6 := by omega
    have n65 : ¬ p6 = p5 := by omega
    have n56 : ¬ p5 = p6 := by omega
    have n67 : ¬ p6 = p7 := by omega
    have n76 : ¬ p7 = p6 := by omega
    have HA4 : Hid (Blk (W.drew.setCell ⟨p6, 0, none⟩ (.slice A2 X2.length c2)) p4 #[.slice A2 X2.length c2] 33) := hSW.1.setOther (p := ⟨p6, 0, none⟩) n46 _
    have HA5 : Hid (Blk (W.drew.setCell ⟨p6, 0, none⟩ (.slice A2 X2.length c2)) p5 #[.int .i64 kd, .int .i64 at', .int .i64 N, .slice tA tn tc] 35) := hSW.2.1.setOther (p := ⟨p6, 0, none⟩) n56 _
    have HAR : Hid (ROwn (W.drew.setCell ⟨p6, 0, none⟩ (.slice A2 X2.length c2)) (.slice A2 X2.length c2) X2) := ownsRow_keep hSW.2.2 ((Keep.refl (fun q => q = p6) W.drew).setCell (p := ⟨p6, 0, none⟩) (.inl rfl) _) (fun g' hg' e => by have := (HFAR2.out g' hg').2; omega)
    have hkf : Keep (fun q => q = p6 ∨ q = p7) W ((W.setCell ⟨p6, 0, none⟩ (.slice A2 X2.length c2)).setCell ⟨p7, 0, none⟩ (.bool true)).drew := (((Keep.refl (fun q => q = p6 ∨ q = p7) W).setCell (p := ⟨p6, 0, none⟩) (.inl (.inl rfl)) _).setCell (p := ⟨p7, 0, none⟩) (.inl (.inr rfl)) _).drew
    have HDF : Hid (((W.setCell ⟨p6, 0, none⟩ (.slice A2 X2.length c2)).setCell ⟨p7, 0, none⟩ (.bool true)).drew.heap[D]? = some (.deferred (some []))) := (hkf.block D HDD.out.2 (fun e => by have := HDD.out; rcases e with e | e <;> omega)).trans HKD.out
    have HKPF : Hid (Keep G w (((W.setCell ⟨p6, 0, none⟩ (.slice A2 X2.length c2)).setCell ⟨p7, 0, none⟩ (.bool true)).drew.putObj D (.deferred none))) := keep_turn (HI.out.kp.trans hkf (fun q hq e => by rcases e with e | e <;> omega)) (by have := HDD.out; omega)
    have HROWF : Hid (ROwn (((W.setCell ⟨p6, 0, none⟩ (.slice A2 X2.length c2)).setCell ⟨p7, 0, none⟩ (.bool true)).drew.putObj D (.deferred none)) (.slice A2 X2.length c2) X2) := (keepC_turn HDF.out rfl (fun _ => False)).row (ownsRow_keep H2R.out hkf (fun g' hg' e => by have := (HFAR2.out g' hg').2; rcases e with e | e <;> omega)) (fun _ _ => id)
    have HEX : Hid (∃ k v', PAt R (((W.setCell ⟨p6, 0, none⟩ (.slice A2 X2.length c2)).setCell ⟨p7, 0, none⟩ (.bool true)).drew.putObj D (.deferred none)) G b v' (l.drop k) room ∧ (l.drop k).map toR = sorted X2 ∧ k ≤ dueN l at' ∧ (k = dueN l at' ∨ (1 ≤ k ∧ (k : Int) = N))) := by
      obtain ⟨v7, hp7, -⟩ := (HPT.out.keep hkf (fun q hq e => by have := HGR.out q hq; rcases e with e | e <;> omega)).turn (o' := .deferred none) HDF.out rfl
      exact ⟨_, v7, hp7, H4R.out, HKD1.out.1, HKD1.out.2⟩
    have HR6 : Hid (((W.setCell ⟨p6, 0, none⟩ (.slice A2 X2.length c2)).setCell ⟨p7, 0, none⟩ (.bool true)).drew.cell? ⟨p6, 0, none⟩ = some (.slice A2 X2.length c2)) := ((((HI.out.r6).set' (o := 0) (u := .slice A2 X2.length c2) rfl).setOther (p := ⟨p7, 0, none⟩) n67 (.bool true)).drew).cell 0 rfl
    have HR7 : Hid (((W.setCell ⟨p6, 0, none⟩ (.slice A2 X2.length c2)).setCell ⟨p7, 0, none⟩ (.bool true)).drew.cell? ⟨p7, 0, none⟩ = some (.bool true)) := ((((HI.out.r7).setOther (p := ⟨p6, 0, none⟩) n76 (.slice A2 X2.length c2)).set' (o := 0) (u := .bool true) rfl).drew).cell 0 rfl
    clear hkf hpp
    cases hdl : l.drop xs.length with
    | nil =>
      have hx0 : X2 = [] := sorted_nil (by have h := H4R.out; rw [hdl] at h; exact h.symm)
      have hfi : fi X2 X2.length = -1 := by rw [hx0]; rfl
      rw [hfi]
      clear hdl hfi hx0
      go_wp2_with fail
      refine wp_region_heldT (S := fun W' => Blk W' p4 #[.slice A2 X2.length c2] 33 ∧ Blk W' p5 #[.int .i64 kd, .int .i64 at', .int .i64 N, .slice tA tn tc] 35 ∧ ROwn W' (.slice A2 X2.length c2) X2) 14 (by kernel_rfl) hSW (fun hHeld => ?_)
      refine heldT_takeC [] (i := 0) (oi := { dst := some 67, op := Op.load 33 (Operand.tmp 4), type := 33, pos := "law.go:47", after := #[], guard := none }) (v := ?_) rfl (by kernel_rfl) (by kernel_rfl) (by kernel_rfl) (by kernel_rfl) (fun _ _ _ h => h) (Or.inl ⟨by rfl, ?_⟩) hHeld ?_
      rotate_left 1
      · intro wS hSw; obtain ⟨s4, s5, s6⟩ := hSw; have q4 := s4.cell 0 (v := .slice A2 X2.length c2) rfl; clear s4 s5 s6; go_simp <;> with_reducible rfl
      (try simp only [Act.put, List.setIfInBounds_toArray, List.set_cons_zero, List.set_cons_succ])
      refine heldT_free (i := 1) (oi := { dst := some 68, op := Op.move (Operand.tmp 12), type := 3, pos := "law.go:47", after := #[], guard := none }) (v := ?_) rfl (by kernel_rfl) (by kernel_rfl) (by kernel_rfl) (by kernel_rfl) (fun _ _ _ h => h) (Or.inl ⟨by rfl, ?_⟩) hHeld ?_
      rotate_left 1
      · intro wS; go_simp <;> with_reducible rfl
      (try simp only [Act.put, List.setIfInBounds_toArray, List.set_cons_zero, List.set_cons_succ])
      refine heldT_free (i := 2) (oi := { dst := some 69, op := Op.binOp BinOp.lss 3 (Operand.tmp 68) (Operand.const (Value.int IntKind.i64 0)) 3, type := 4, pos := "law.go:47", after := #[{ on := 1, ground := Ground.data }], guard := none }) (v := ?_) rfl (by kernel_rfl) (by kernel_rfl) (by kernel_rfl) (by kernel_rfl) (fun _ _ _ h => h) (Or.inl ⟨by rfl, ?_⟩) hHeld ?_
      rotate_left 1
      · intro wS; go_simp <;> with_reducible rfl
      (try simp only [Act.put, List.setIfInBounds_toArray, List.set_cons_zero, List.set_cons_succ])
      refine heldT_free (i := 3) (oi := { dst := some 70, op := Op.move (Operand.tmp 69), type := 4, pos := "law.go:47", after := #[{ on := 2, ground := Ground.data }], guard := none }) (v := ?_) rfl (by kernel_rfl) (by kernel_rfl) (by kernel_rfl) (by kernel_rfl) (fun _ _ _ h => h) (Or.inl ⟨by rfl, ?_⟩) hHeld ?_
      rotate_left 1
      · intro wS; go_simp <;> with_reducible rfl
      (try simp only [Act.put, List.setIfInBounds_toArray, List.set_cons_zero, List.set_cons_succ])
      refine heldT_free (i := 4) (oi := { dst := some 71, op := Op.load 33 (Operand.tmp 4), type := 33, pos := "law.go:47", after := #[{ on := 3, ground := Ground.guard }], guard := some (3, false) }) (v := undef) rfl (by kernel_rfl) (by kernel_rfl) (by kernel_rfl) (by kernel_rfl) (fun _ _ _ h => h) (Or.inr ⟨by rfl, rfl⟩) hHeld ?_
      (try simp only [Act.put, List.setIfInBounds_toArray, List.set_cons_zero, List.set_cons_succ])
      refine heldT_free (i := 5) (oi := { dst := some 72, op := Op.move (Operand.tmp 12), type := 3, pos := "law.go:47", after := #[{ on := 3, ground := Ground.guard }], guard := some (3, false) }) (v := undef) rfl (by kernel_rfl) (by kernel_rfl) (by kernel_rfl) (by kernel_rfl) (fun _ _ _ h => h) (Or.inr ⟨by rfl, rfl⟩) hHeld ?_
      (try simp only [Act.put, List.setIfInBounds_toArray, List.set_cons_zero, List.set_cons_succ])
      refine heldT_free (i := 6) (oi := { dst := some 73, op := Op.indexAddr 33 (Operand.tmp 71) (Operand.tmp 72), type := 0, pos := "law.go:47", after := #[{ on := 4, ground := Ground.data }, { on := 5, ground := Ground.data }, { on := 3, ground := Ground.guard }], guard := some (3, false) }) (v := undef) rfl (by kernel_rfl) (by kernel_rfl) (by kernel_rfl) (by kernel_rfl) (fun _ _ _ h => h) (Or.inr ⟨by rfl, rfl⟩) hHeld ?_
      (try simp only [Act.put, List.setIfInBounds_toArray, List.set_cons_zero, List.set_cons_succ])
      refine heldT_free (i := 7) (oi := { dst := some 74, op := Op.fieldAddr 56 (Operand.tmp 73) 0, type := 0, pos := "law.go:47", after := #[{ on := 6, ground := Ground.data }, { on := 3, ground := Ground.guard }], guard := some (3, false) }) (v := undef) rfl (by kernel_rfl) (by kernel_rfl) (by kernel_rfl) (by kernel_rfl) (fun _ _ _ h => h) (Or.inr ⟨by rfl, rfl⟩) hHeld ?_
      (try simp only [Act.put, List.setIfInBounds_toArray, List.set_cons_zero, List.set_cons_succ])
      refine heldT_free (i := 8) (oi := { dst := some 75, op := Op.load 3 (Operand.tmp 74), type := 3, pos := "law.go:47", after := #[{ on := 7, ground := Ground.data }, { on := 3, ground := Ground.guard }], guard := some (3, false) }) (v := undef) rfl (by kernel_rfl) (by kernel_rfl) (by kernel_rfl) (by kernel_rfl) (fun _ _ _ h => h) (Or.inr ⟨by rfl, rfl⟩) hHeld ?_
      (try simp only [Act.put, List.setIfInBounds_toArray, List.set_cons_zero, List.set_cons_succ])
      refine heldT_free (i := 9) (oi := { dst := some 76, op := Op.fieldAddr 35 (Operand.tmp 5) 1, type := 0, pos := "law.go:47", after := #[{ on := 3, ground := Ground.guard }], guard := some (3, false) }) (v := undef) rfl (by kernel_rfl) (by kernel_rfl) (by kernel_rfl) (by kernel_rfl) (fun _ _ _ h => h) (Or.inr ⟨by rfl, rfl⟩) hHeld ?_
      (try simp only [Act.put, List.setIfInBounds_toArray, List.set_cons_zero, List.set_cons_succ])
      refine heldT_free (i := 10) (oi := { dst := some 77, op := Op.load 3 (Operand.tmp 76), type := 3, pos := "law.go:47", after := #[{ on := 9, ground := Ground.data }, { on := 3, ground := Ground.guard }], guard := some (3, false) }) (v := undef) rfl (by kernel_rfl) (by kernel_rfl) (by kernel_rfl) (by kernel_rfl) (fun _ _ _ h => h) (Or.inr ⟨by rfl, rfl⟩) hHeld ?_
      (try simp only [Act.put, List.setIfInBounds_toArray, List.set_cons_zero, List.set_cons_succ])
      refine heldT_free (i := 11) (oi := { dst := some 78, op := Op.binOp BinOp.gtr 3 (Operand.tmp 75) (Operand.tmp 77) 3, type := 4, pos := "law.go:47", after := #[{ on := 8, ground := Ground.data }, { on := 10, ground := Ground.data }, { on := 3, ground := Ground.guard }], guard := some (3, false) }) (v := undef) rfl (by kernel_rfl) (by kernel_rfl) (by kernel_rfl) (by kernel_rfl) (fun _ _ _ h => h) (Or.inr ⟨by rfl, rfl⟩) hHeld ?_
      (try simp only [Act.put, List.setIfInBounds_toArray, List.set_cons_zero, List.set_cons_succ])
      refine heldT_free (i := 12) (oi := { dst := some 79, op := Op.pick (Operand.tmp 70) (Operand.const (Value.bool true)) (Operand.tmp 78), type := 4, pos := "law.go:47", after := #[{ on := 3, ground := Ground.data }, { on := 11, ground := Ground.data }], guard := none }) (v := ?_) rfl (by kernel_rfl) (by kernel_rfl) (by kernel_rfl) (by kernel_rfl) (fun _ _ _ h => h) (Or.inl ⟨by rfl, ?_⟩) hHeld ?_
      rotate_left 1
      · intro wS; go_simp <;> with_reducible rfl
      (try simp only [Act.put, List.setIfInBounds_toArray, List.set_cons_zero, List.set_cons_succ])
      refine heldT_one (j := 13) (by kernel_rfl) (by kernel_rfl) rfl (fun K hK => ?_)
      go_simp
      go_wp2_with fail
      refine hK.out _ _ ⟨HA4.out, HA5.out, HAR.out⟩ (fun hHeld => ?_)
      clear hK K
      (try simp only [Act.put, List.setIfInBounds_toArray, List.set_cons_zero, List.set_cons_succ])
      refine heldT_tail (by kernel_rfl) rfl rfl (by kernel_rfl) ?_
      (try simp only [List.drop_succ_cons, List.drop_zero])
      go_wp2_with fail
      refine NoPanic.normal ?_
      go_wp2
      refine ⟨by simp, .inl ⟨_, _, rfl, run_takeDeferred HDF.out, ?_⟩⟩
      have hc6 := cell_kept HR6.out (grownBy_putObj' _ D (.deferred none)) (fun r e => by cases e; exact ⟨_, HDF.out, rfl⟩)
      have hc7 := cell_kept HR7.out (grownBy_putObj' _ D (.deferred none)) (fun r e => by cases e; exact ⟨_, HDF.out, rfl⟩)
      refine ⟨.tuple #[.slice A2 X2.length c2, .bool true], ?_, .slice A2 X2.length c2, X2, rfl, ?_⟩
      · simp [results, Try.f16, go_sem, hc6, hc7]
      · exact ⟨HEX.out, HROWF.out, fun g' hg' => (HFAR2.out g' hg').1, HKPF.out⟩
    | cons m3 t3 =>
      have h4 := H4R.out
      rw [hdl] at h4
      obtain ⟨i3, hi3, hfi, hXi, -⟩ := head_first h4
      have hlm : l[xs.length]? = some m3 := by
        have h := congrArg (fun z => z[0]?) hdl
        simpa [List.getElem?_drop] using h
      have hdu := HE.out m3 hlm
      have HXI := Lib.hid hXi
      obtain ⟨g3, o3, cc3, he3, y0, y1⟩ := RAt.at (ROwn.rat H2R.out) hXi
      cases he3
      have d1 : decide ((i3 : Int) < 0) = false := decide_eq_false (by omega)
      have d2 : decide (at' < m3.due) = true := decide_eq_true hdu
      have i1 : (0 : Int) ≤ (i3 : Int) := by omega
      have i2 : (i3 : Int) < (X2.length : Int) := by omega
      rw [hfi]
      clear hdl h4 hfi hXi hlm y0 y1
      go_wp2_with fail
      refine wp_region_heldT (S := fun W' => Blk W' p4 #[.slice (some ⟨g3, o3, none⟩) X2.length c2] 33 ∧ Blk W' p5 #[.int .i64 kd, .int .i64 at', .int .i64 N, .slice tA tn tc] 35 ∧ ROwn W' (.slice (some ⟨g3, o3, none⟩) X2.length c2) X2) 14 (by kernel_rfl) hSW (fun hHeld => ?_)
      refine heldT_takeC [] (i := 0) (oi := { dst := some 67, op := Op.load 33 (Operand.tmp 4), type := 33, pos := "law.go:47", after := #[], guard := none }) (v := ?_) rfl (by kernel_rfl) (by kernel_rfl) (by kernel_rfl) (by kernel_rfl) (fun _ _ _ h => h) (Or.inl ⟨by rfl, ?_⟩) hHeld ?_
      rotate_left 1
      · intro wS hSw; obtain ⟨s4, s5, s6⟩ := hSw; have q4 := s4.cell 0 (v := .slice (some ⟨g3, o3, none⟩) X2.length c2) rfl; clear s4 s5 s6; go_simp <;> with_reducible rfl
      (try simp only [Act.put, List.setIfInBounds_toArray, List.set_cons_zero, List.set_cons_succ])
      refine heldT_free (i := 1) (oi := { dst := some 68, op := Op.move (Operand.tmp 12), type := 3, pos := "law.go:47", after := #[], guard := none }) (v := ?_) rfl (by kernel_rfl) (by kernel_rfl) (by kernel_rfl) (by kernel_rfl) (fun _ _ _ h => h) (Or.inl ⟨by rfl, ?_⟩) hHeld ?_
      rotate_left 1
      · intro wS; go_simp <;> with_reducible rfl
      (try simp only [Act.put, List.setIfInBounds_toArray, List.set_cons_zero, List.set_cons_succ])
      refine heldT_free (i := 2) (oi := { dst := some 69, op := Op.binOp BinOp.lss 3 (Operand.tmp 68) (Operand.const (Value.int IntKind.i64 0)) 3, type := 4, pos := "law.go:47", after := #[{ on := 1, ground := Ground.data }], guard := none }) (v := ?_) rfl (by kernel_rfl) (by kernel_rfl) (by kernel_rfl) (by kernel_rfl) (fun _ _ _ h => h) (Or.inl ⟨by rfl, ?_⟩) hHeld ?_
      rotate_left 1
      · intro wS; go_simp <;> with_reducible rfl
      (try simp only [Act.put, List.setIfInBounds_toArray, List.set_cons_zero, List.set_cons_succ])
      refine heldT_free (i := 3) (oi := { dst := some 70, op := Op.move (Operand.tmp 69), type := 4, pos := "law.go:47", after := #[{ on := 2, ground := Ground.data }], guard := none }) (v := ?_) rfl (by kernel_rfl) (by kernel_rfl) (by kernel_rfl) (by kernel_rfl) (fun _ _ _ h => h) (Or.inl ⟨by rfl, ?_⟩) hHeld ?_
      rotate_left 1
      · intro wS; go_simp <;> with_reducible rfl
      (try simp only [Act.put, List.setIfInBounds_toArray, List.set_cons_zero, List.set_cons_succ])
      refine heldT_takeC [] (i := 4) (oi := { dst := some 71, op := Op.load 33 (Operand.tmp 4), type := 33, pos := "law.go:47", after := #[{ on := 3, ground := Ground.guard }], guard := some (3, false) }) (v := ?_) rfl (by kernel_rfl) (by kernel_rfl) (by kernel_rfl) (by kernel_rfl) (fun _ _ _ h => h) (Or.inl ⟨by rfl, ?_⟩) hHeld ?_
      rotate_left 1
      · intro wS hSw; obtain ⟨s4, s5, s6⟩ := hSw; have q4 := s4.cell 0 (v := .slice (some ⟨g3, o3, none⟩) X2.length c2) rfl; clear s4 s5 s6; go_simp <;> with_reducible rfl
      (try simp only [Act.put, List.setIfInBounds_toArray, List.set_cons_zero, List.set_cons_succ])
      refine heldT_free (i := 5) (oi := { dst := some 72, op := Op.move (Operand.tmp 12), type := 3, pos := "law.go:47", after := #[{ on := 3, ground := Ground.guard }], guard := some (3, false) }) (v := ?_) rfl (by kernel_rfl) (by kernel_rfl) (by kernel_rfl) (by kernel_rfl) (fun _ _ _ h => h) (Or.inl ⟨by rfl, ?_⟩) hHeld ?_
      rotate_left 1
      · intro wS; go_simp <;> with_reducible rfl
      (try simp only [Act.put, List.setIfInBounds_toArray, List.set_cons_zero, List.set_cons_succ])
      refine heldT_free (i := 6) (oi := { dst := some 73, op := Op.indexAddr 33 (Operand.tmp 71) (Operand.tmp 72), type := 0, pos := "law.go:47", after := #[{ on := 4, ground := Ground.data }, { on := 5, ground := Ground.data }, { on := 3, ground := Ground.guard }], guard := some (3, false) }) (v := ?_) rfl (by kernel_rfl) (by kernel_rfl) (by kernel_rfl) (by kernel_rfl) (fun _ _ _ h => h) (Or.inl ⟨by rfl, ?_⟩) hHeld ?_
      rotate_left 1
      · intro wS; go_simp <;> with_reducible rfl
      (try simp only [Act.put, List.setIfInBounds_toArray, List.set_cons_zero, List.set_cons_succ])
      refine heldT_free (i := 7) (oi := { dst := some 74, op := Op.fieldAddr 56 (Operand.tmp 73) 0, type := 0, pos := "law.go:47", after := #[{ on := 6, ground := Ground.data }, { on := 3, ground := Ground.guard }], guard := some (3, false) }) (v := ?_) rfl (by kernel_rfl) (by kernel_rfl) (by kernel_rfl) (by kernel_rfl) (fun _ _ _ h => h) (Or.inl ⟨by rfl, ?_⟩) hHeld ?_
      rotate_left 1
      · intro wS; go_simp <;> with_reducible rfl
      (try simp only [Act.put, List.setIfInBounds_toArray, List.set_cons_zero, List.set_cons_succ])
      refine heldT_takeC [] (i := 8) (oi := { dst := some 75, op := Op.load 3 (Operand.tmp 74), type := 3, pos := "law.go:47", after := #[{ on := 7, ground := Ground.data }, { on := 3, ground := Ground.guard }], guard := some (3, false) }) (v := ?_) rfl (by kernel_rfl) (by kernel_rfl) (by kernel_rfl) (by kernel_rfl) (fun _ _ _ h => h) (Or.inl ⟨by rfl, ?_⟩) hHeld ?_
      rotate_left 1
      · intro wS hSw; obtain ⟨s4, s5, s6⟩ := hSw; obtain ⟨g5, o5, cc5, he5, q6, q7⟩ := RAt.at (ROwn.rat s6) HXI.out; cases he5; replace q6 : wS.cell? ⟨g3, o3 + i3 * 2, none⟩ = some (.int .i64 m3.due) := q6; clear s4 s5 s6; go_simp <;> with_reducible rfl
      (try simp only [Act.put, List.setIfInBounds_toArray, List.set_cons_zero, List.set_cons_succ])
      refine heldT_free (i := 9) (oi := { dst := some 76, op := Op.fieldAddr 35 (Operand.tmp 5) 1, type := 0, pos := "law.go:47", after := #[{ on := 3, ground := Ground.guard }], guard := some (3, false) }) (v := ?_) rfl (by kernel_rfl) (by kernel_rfl) (by kernel_rfl) (by kernel_rfl) (fun _ _ _ h => h) (Or.inl ⟨by rfl, ?_⟩) hHeld ?_
      rotate_left 1
      · intro wS; go_simp <;> with_reducible rfl
      (try simp only [Act.put, List.setIfInBounds_toArray, List.set_cons_zero, List.set_cons_succ])
      refine heldT_takeC [] (i := 10) (oi := { dst := some 77, op := Op.load 3 (Operand.tmp 76), type := 3, pos := "law.go:47", after := #[{ on := 9, ground := Ground.data }, { on := 3, ground := Ground.guard }], guard := some (3, false) }) (v := ?_) rfl (by kernel_rfl) (by kernel_rfl) (by kernel_rfl) (by kernel_rfl) (fun _ _ _ h => h) (Or.inl ⟨by rfl, ?_⟩) hHeld ?_
      rotate_left 1
      · intro wS hSw; obtain ⟨s4, s5, s6⟩ := hSw; have q5 := s5.cell 1 (v := .int .i64 at') rfl; clear s4 s5 s6; go_simp <;> with_reducible rfl
      (try simp only [Act.put, List.setIfInBounds_toArray, List.set_cons_zero, List.set_cons_succ])
      refine heldT_free (i := 11) (oi := { dst := some 78, op := Op.binOp BinOp.gtr 3 (Operand.tmp 75) (Operand.tmp 77) 3, type := 4, pos := "law.go:47", after := #[{ on := 8, ground := Ground.data }, { on := 10, ground := Ground.data }, { on := 3, ground := Ground.guard }], guard := some (3, false) }) (v := ?_) rfl (by kernel_rfl) (by kernel_rfl) (by kernel_rfl) (by kernel_rfl) (fun _ _ _ h => h) (Or.inl ⟨by rfl, ?_⟩) hHeld ?_
      rotate_left 1
      · intro wS; go_simp <;> with_reducible rfl
      (try simp only [Act.put, List.setIfInBounds_toArray, List.set_cons_zero, List.set_cons_succ])
      refine heldT_free (i := 12) (oi := { dst := some 79, op := Op.pick (Operand.tmp 70) (Operand.const (Value.bool true)) (Operand.tmp 78), type := 4, pos := "law.go:47", after := #[{ on := 3, ground := Ground.data }, { on := 11, ground := Ground.data }], guard := none }) (v := ?_) rfl (by kernel_rfl) (by kernel_rfl) (by kernel_rfl) (by kernel_rfl) (fun _ _ _ h => h) (Or.inl ⟨by rfl, ?_⟩) hHeld ?_
      rotate_left 1
      · intro wS; go_simp <;> with_reducible rfl
      (try simp only [Act.put, List.setIfInBounds_toArray, List.set_cons_zero, List.set_cons_succ])
      refine heldT_one (j := 13) (by kernel_rfl) (by kernel_rfl) rfl (fun K hK => ?_)
      go_simp
      go_wp2_with fail
      refine hK.out _ _ ⟨HA4.out, HA5.out, HAR.out⟩ (fun hHeld => ?_)
      clear hK K
      (try simp only [Act.put, List.setIfInBounds_toArray, List.set_cons_zero, List.set_cons_succ])
      refine heldT_tail (by kernel_rfl) rfl rfl (by kernel_rfl) ?_
      (try simp only [List.drop_succ_cons, List.drop_zero])
      go_wp2_with fail
      refine NoPanic.normal ?_
      go_wp2
      refine ⟨by simp, .inl ⟨_, _, rfl, run_takeDeferred HDF.out, ?_⟩⟩
      have hc6 := cell_kept HR6.out (grownBy_putObj' _ D (.deferred none)) (fun r e => by cases e; exact ⟨_, HDF.out, rfl⟩)
      have hc7 := cell_kept HR7.out (grownBy_putObj' _ D (.deferred none)) (fun r e => by cases e; exact ⟨_, HDF.out, rfl⟩)
      refine ⟨.tuple #[.slice (some ⟨g3, o3, none⟩) X2.length c2, .bool true], ?_, .slice (some ⟨g3, o3, none⟩) X2.length c2, X2, rfl, ?_⟩
      · simp [results, Try.f16, go_sem, hc6, hc7]
      · exact ⟨HEX.out, HROWF.out, fun g' hg' => (HFAR2.out g' hg').1, HKPF.out⟩
  case stop =>
    rintro D c pre W hD hSp ⟨rfl, hi⟩ hK
    obtain ⟨X2, v2, h1, h2, h3, h4⟩ := hi.xs
    obtain ⟨A2, c2, rfl⟩ := ownsRow_slice h2
    have hz6 := HZ6.out
    have HKD := Lib.hid hK
    have HR6 : Hid (W.cell? ⟨p6, 0, none⟩ = some (.slice A2 X2.length c2)) := h1.cell 0 rfl
    have HR7 : Hid (W.cell? ⟨p7, 0, none⟩ = some (.bool true)) := hi.r7.cell 0 rfl
    have HKPF : Hid (Keep G w (W.putObj D (.deferred none))) := keep_turn hi.kp (by omega)
    have HROWF : Hid (ROwn (W.putObj D (.deferred none)) (.slice A2 X2.length c2) X2) := (keepC_turn hK rfl (fun _ => False)).row h2 (fun _ _ => id)
    have HFAR2 := Lib.hid (fun g' hg' => (h3 g' hg').1)
    have HLE : Hid (pre.length ≤ dueN l at') := hSp.2
    have HEX : Hid (∃ k v', PAt R (W.putObj D (.deferred none)) G b v' (l.drop k) room ∧ (l.drop k).map toR = sorted X2 ∧ k ≤ dueN l at' ∧ (k = dueN l at' ∨ (1 ≤ k ∧ (k : Int) = N))) := by
      obtain ⟨v7, hp7, -⟩ := PTook.turn (hSp.1) (o' := .deferred none) hK rfl
      exact ⟨_, v7, hp7, h4, HLE.out, .inr hi.nk⟩
    clear h1 h2 h3 h4 hi hSp hz6 hK hD
    rw [wpIn_wide]
    go_wp2
    refine ⟨by simp, .inl ⟨_, _, rfl, run_takeDeferred HKD.out, ?_⟩⟩
    have hc6 := cell_kept HR6.out (grownBy_putObj' _ D (.deferred none)) (fun r e => by cases e; exact ⟨_, HKD.out, rfl⟩)
    have hc7 := cell_kept HR7.out (grownBy_putObj' _ D (.deferred none)) (fun r e => by cases e; exact ⟨_, HKD.out, rfl⟩)
    refine ⟨.tuple #[.slice A2 X2.length c2, .bool true], ?_, .slice A2 X2.length c2, X2, rfl, ?_⟩
    · simp [results, Try.f16, go_sem, hc6, hc7]
    · exact ⟨HEX.out, HROWF.out, HFAR2.out, HKPF.out⟩
end Go.Proofs.Ytijmmmgmpfhgoaa
