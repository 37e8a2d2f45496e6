/- simnet: the law's step of kind 4, no such receiver. -/
import Derived.Test.YtlodiibmofeikaaQNetStepB
namespace Go.Proofs.Ytlodiibmofeikaa
open Go.RowKit Go.Shelf
set_option linter.unusedVariables false
set_option linter.unusedSimpArgs false
theorem noop_seq (n0 : Nat) (Kp : World → World → Prop) (T : Nat → Prop) (w : World) :
    SeqOwnY Fence.wide n0 Try.prog 31 #[] (fun x : Yd => #[.slice x.A x.n x.c]) Kp T (fun _ _ _ _ => False) (fun xs _ => xs = []) (fun _ _ => False) w := by
  intro lp J Jx W hW hJ hY h0
  refine callsIn_wide.2 ?_
  have H0 := Lib.hid h0
  clear hY h0 hJ hW
  go_enter Try.func31, Try.ntmps31
  go_wp2
  first
    | exact bodyPost_end (v := .tuple #[]) (by simp [results, Try.results31, go_sem]) rfl ⟨⟨_, rfl⟩, .inl ⟨[], rfl, H0.out⟩⟩
    | exact bodyPost_ret (v := .tuple #[]) (by simp [results, Try.results31, go_sem]) rfl ⟨⟨_, rfl⟩, .inl ⟨[], rfl, H0.out⟩⟩
set_option maxRecDepth 100000 in
set_option maxHeartbeats 4000000 in
theorem step_4n (w : World) {col : Nat → Nat} {nb n : Nat} {delay room j lv : Int} {F : List FD} {m : MD} {k : Nat} {t : Int} (h : NM w col nb n delay room j lv F m k t) (hk : k < 1000) (now : Int) (ht : t ≤ now ∧ now ≤ t + 100) (r level later : Int) (tA : Option Addr) (tn tc : Nat) (bs : List Int) (hx : Reads w 1 (.slice tA tn tc) tn (u8s bs)) (hbs : bs.length = tn) (hbt : BtsI bs) (hxo : ∀ g, (Value.slice tA tn tc).ownBlock = some g → 0 < tn → col g = 0 ∧ g < w.heap.size) (hno : r < 0 ∨ (0 ≤ r ∧ (n : Int) ≤ r)) :
    Calls Try.prog 19 #[.agg (modC m), .pointer (some ⟨nb, 0, none⟩), .agg #[.int .i64 4, .int .i64 r, .int .i64 level, .int .i64 later, .slice tA tn tc], .int .i64 now] w fun e w' => ∃ m', e = .returned (.tuple #[.agg (modC m'), .bool true]) ∧ SR w w' col nb n delay room j lv F m' (k + 1) now := by
  have H := Lib.hid h
  have hrc := h.cfg.1
  obtain ⟨hb4, hb6, hb8, hb9, hbl, hzz⟩ := boxes4n w (modC m) #[.int .i64 4, .int .i64 r, .int .i64 level, .int .i64 later, .slice tA tn tc] (modC md0) #[.bool false] 59 61 59 4
  have hx0 : ((((w.alloc (.cells (modC m) 59)).alloc (.cells #[.int .i64 4, .int .i64 r, .int .i64 level, .int .i64 later, .slice tA tn tc] 61)).alloc (.cells (modC md0) 59)).alloc (.cells #[.bool false] 4)).cell? ⟨w.heap.size, 0, none⟩ = some (.int .i64 (n : Int)) := by rw [← hrc]; exact hb4.cell 0 rfl
  obtain ⟨x0, x1, x2, x3, x4⟩ := blk5' hb6
  have HB : Hid (Bx4 w ((((w.alloc (.cells (modC m) 59)).alloc (.cells #[.int .i64 4, .int .i64 r, .int .i64 level, .int .i64 later, .slice tA tn tc] 61)).alloc (.cells (modC md0) 59)).alloc (.cells #[.bool false] 4)) (modC m) #[.int .i64 4, .int .i64 r, .int .i64 level, .int .i64 later, .slice tA tn tc]) := ⟨hb4, hb6, hb8, hb9⟩
  have HBL := Lib.hid hbl
  have HZZ : Hid (((((w.alloc (.cells (modC m) 59)).alloc (.cells #[.int .i64 4, .int .i64 r, .int .i64 level, .int .i64 later, .slice tA tn tc] 61)).alloc (.cells (modC md0) 59)).alloc (.cells #[.bool false] 4)).heap.size = w.heap.size + 1 + 1 + 1 + 1) := hzz
  have H1 := Lib.hid (h.below hbl)
  have HMO : Hid (modOne m) := by
    obtain ⟨⟨gd, pv, P, fv, asks, vs, Xs, -, hM, -⟩, -⟩ := h
    exact hM.modOne
  have hn8 := h.cf.n
  have HT := Lib.hid ht
  have HKK := Lib.hid hk
  have HX := Lib.hid (hx.below hbl)
  have HBS := Lib.hid hbs
  have HBT := Lib.hid hbt
  have HXO := Lib.hid hxo
  clear h hrc hb4 hb6 hb8 hb9 hbl hzz ht hk hx hbs hbt hxo
  rcases hno with g | ⟨g, g'⟩
  all_goals
    (try (have hd : decide (r < (n : Int)) = false := decide_eq_false (by omega)))
    refine callsIn_wide.1 (callsIn_of_wp_marks (F := Fence.wide) (n := 9) Try.func19 rfl trivial ?_)
    rw [wpIn_wide]
    simp only [Try.ntmps19, List.size_toArray, List.length_cons, List.length_nil, Nat.reduceAdd, Nat.reduceSub, Array.replicate_succ, Array.replicate_zero, List.push_toArray, List.append_toArray, List.nil_append, List.cons_append]
    go_wp2_with (first | (refine wpList_boxM rfl _ rfl m rfl ?_; rintro w1 hw1 - - -; have hw1' := hw1.out; subst hw1'; clear hw1) | (refine wpList_allocM rfl rfl ?_; rintro w2 hw2 - - -; have hw2' := hw2.out; subst hw2'; clear hw2))
    generalize ((((w.alloc (.cells (modC m) 59)).alloc (.cells #[.int .i64 4, .int .i64 r, .int .i64 level, .int .i64 later, .slice tA tn tc] 61)).alloc (.cells (modC md0) 59)).alloc (.cells #[.bool false] 4)) = w1 at *
    obtain ⟨gd, pv, P, fv, asks, vs, Xs, hN, -, hpi, -⟩ := H1.out.ex
    have hgl : gd.l.length = n := hpi.len
    have hno : hasB gd.l.length r = false := decide_eq_false (by omega)
    have HN1 := Lib.hid hN
    have HNO := Lib.hid hno
    clear hN hpi hgl hno x0 x2 x3 x4 hx0
    refine (netTake_no HN1.out r now HNO.out).mono ?_
    rintro e w2 ⟨rfl, rfl⟩
    go_wp2_with fail
    refine (wpIn_wide (n := 9)).1 ?_
    refine' wpIn_rangeOwnY (F := Fence.wide) (n := 9) (T := fun _ => False) (Kp := KeepC (fun _ => False)) rfl (by omega) (gf := 31) (lb := #[]) rfl trivial (enters_of Try.func31 (by kernel_rfl) rfl)
      (noop_seq (9 - 1) _ _ w1) (fun pre x N W l o o' h _ _ _ => h) (fun h k => h.trans k) (fun W l o o' hl ho hc => keepC_turn ho hc _) (fun _ h => h.elim) (fun _ => rfl)
      (fun xs W l o o' h _ _ _ => h) (fun pre W l o o' h _ _ _ => h)
      (fun (pre : List Yd) W => Keep (fun _ => False) w1 W) (fun _ _ _ => False) (fun pre W l o o' h hl ho hc => keep_turn h hl) (fun c pre W l o o' h _ _ _ => h) (fun pre A B h k => h.trans k (fun _ _ x => x))
      (Keep.refl _ _) _ ?assign ?body ?done ?stop
    case assign =>
      intro l x W K hK
      gi_wp2
      exact hK
    case body =>
      intro l pre x W0 W _ _ _ hy
      exact hy.elim
    case stop =>
      rintro D c pre W hD hSp hx hK
      exact hSp.elim
    case done =>
      rintro D xs W hD hxs hi hK
      have HI := Lib.hid hi
      have HKD := Lib.hid hK
      have HDD : Hid (w1.heap.size ≤ D ∧ D < W.heap.size) := ⟨hD, (Array.getElem?_eq_some_iff.1 hK).1⟩
      have hbw : Below w1.heap.size w1 W.drew := (hi.drew).below (fun _ h => h.elim) (Nat.le_refl _)
      have HBW : Hid (Bx4 w W.drew (modC m) #[.int .i64 4, .int .i64 r, .int .i64 level, .int .i64 later, .slice tA tn tc]) := HB.out.below hbw
      have HWT := Lib.hid (waiting_no (HN1.out.below hbw) r HNO.out)
      have HBLW := Lib.hid (bmore HBL.out hbw HBL.out.size)
      clear hxs hi hK hD hbw x1
      go_wp2_with fail
      refine wp_region_heldT (S := (fun W' => Keep (fun _ => False) W.drew W')) 6 (by kernel_rfl) (Keep.refl _ _) (fun hHeld => ?_)
      refine heldT_takeC [] (i := 0) (oi := { dst := some 186, op := Op.load 59 (Operand.tmp 4), type := 59, pos := "law.go:134", after := #[], guard := none }) (v := ?_) rfl (by kernel_rfl) (by kernel_rfl) (by kernel_rfl) (by kernel_rfl) (fun _ _ _ h => h) (Or.inl ⟨by rfl, ?_⟩) hHeld ?_
      rotate_left 1
      · intro wS hSw; (refine exec_loadM (Operand.tmp 4) ?_ w.heap.size ?_ m (HBW.out.b4.keep hSw (fun h => h)) <;> rfl)
      (try simp only [Act.put, List.setIfInBounds_toArray, List.set_cons_zero, List.set_cons_succ])
      refine heldT_free (i := 1) (oi := { dst := some 187, op := Op.move (Operand.tmp 1), type := 25, pos := "law.go:134", after := #[], guard := none }) (v := ?_) rfl (by kernel_rfl) (by kernel_rfl) (by kernel_rfl) (by kernel_rfl) (fun _ _ _ h => h) (Or.inl ⟨by rfl, ?_⟩) hHeld ?_
      rotate_left 1
      · intro wS; go_simp <;> with_reducible rfl
      (try simp only [Act.put, List.setIfInBounds_toArray, List.set_cons_zero, List.set_cons_succ])
      refine heldT_free (i := 2) (oi := { dst := some 188, op := Op.fieldAddr 61 (Operand.tmp 6) 1, type := 0, pos := "law.go:134", after := #[], guard := none }) (v := ?_) rfl (by kernel_rfl) (by kernel_rfl) (by kernel_rfl) (by kernel_rfl) (fun _ _ _ h => h) (Or.inl ⟨by rfl, ?_⟩) hHeld ?_
      rotate_left 1
      · intro wS; go_simp <;> with_reducible rfl
      (try simp only [Act.put, List.setIfInBounds_toArray, List.set_cons_zero, List.set_cons_succ])
      refine heldT_takeC [4] (i := 3) (oi := { dst := some 189, op := Op.load 3 (Operand.tmp 188), type := 3, pos := "law.go:134", after := #[{ on := 2, ground := Ground.data }], guard := none }) (v := ?_) rfl (by kernel_rfl) (by kernel_rfl) (by kernel_rfl) (by kernel_rfl) (fun _ _ _ h => h) (Or.inl ⟨by rfl, ?_⟩) hHeld ?_
      rotate_left 1
      · intro wS hSw; have hq := HBW.out.b6.keep hSw (fun h => h); have q : wS.cell? ⟨w.heap.size + 1, 1, none⟩ = some (.int .i64 r) := hq.cell 1 rfl; clear hq hSw; go_simp <;> with_reducible rfl
      (try simp only [Act.put, List.setIfInBounds_toArray, List.set_cons_zero, List.set_cons_succ])
      refine heldT_one (j := 4) (by kernel_rfl) (by kernel_rfl) rfl (fun K hK => ?_)
      go_simp
      refine HWT.out.mono ?_
      rintro e w9 ⟨rfl, rfl⟩
      go_wp2_with fail
      refine hK.out _ _ (Keep.refl _ _) (fun hHeld => ?_)
      clear hK K
      (try simp only [Act.put, List.setIfInBounds_toArray, List.set_cons_zero, List.set_cons_succ])
      refine heldT_free (i := 5) (oi := { dst := some 191, op := Op.binOp BinOp.eql 3 (Operand.tmp 190) (Operand.const (Value.int IntKind.i64 0)) 3, type := 4, pos := "law.go:134", after := #[{ on := 4, ground := Ground.data }], guard := none }) (v := ?_) rfl (by kernel_rfl) (by kernel_rfl) (by kernel_rfl) (by kernel_rfl) (fun _ _ _ h => h) (Or.inl ⟨by rfl, ?_⟩) hHeld ?_
      rotate_left 1
      · intro wS; go_simp <;> with_reducible rfl
      (try simp only [Act.put, List.setIfInBounds_toArray, List.set_cons_zero, List.set_cons_succ])
      refine heldT_tail (by kernel_rfl) rfl rfl (by kernel_rfl) ?_
      (try simp only [List.drop_succ_cons, List.drop_zero])
      have HDW : Hid (W.drew.heap[D]? = some (.deferred (some []))) := HKD.out
      go_wp2_with (refine wpList_storeM rfl _ _ rfl _ rfl m md0 HMO.out rfl ?_ ?_; exact HBW.out.b8; rintro wS hbS hkS; have HB9 := Lib.hid (HBW.out.b9.keep hkS.out (by omega)); have y9 := HB9.out.cell 0 rfl; have g9 := HB9.out.frozen 0)
      refine NoPanic.normal ?_
      go_wp2
      obtain ⟨e0, e1, e2, e3, e4, e5, e6, e7, e8, e9, e10, e11, e12, e13, e14⟩ := mod15 hbS.out
      have HSC : Hid (Keep (fun q => q = w.heap.size + 1 + 1 + 1) wS (wS.setCell ⟨w.heap.size + 1 + 1 + 1, 0, none⟩ (.bool true))) := (Keep.refl (fun q => q = w.heap.size + 1 + 1 + 1) wS).setCell (p := ⟨w.heap.size + 1 + 1 + 1, 0, none⟩) (.inl rfl) _
      have hzz := HZZ.out
      have hdd := HDD.out
      have hkf : Keep (fun q => q = w.heap.size + 1 + 1 ∨ q = w.heap.size + 1 + 1 + 1) W.drew (wS.setCell ⟨w.heap.size + 1 + 1 + 1, 0, none⟩ (.bool true)) := (hkS.out.mono (fun q _ e => .inl e)).trans HSC.out (fun q _ e => .inr e)
      have HDF : Hid ((wS.setCell ⟨w.heap.size + 1 + 1 + 1, 0, none⟩ (.bool true)).heap[D]? = some (.deferred (some []))) := (hkf.block D HDD.out.2 (fun e => by omega)).trans HDW.out
      have HR8 : Hid (Blk ((wS.setCell ⟨w.heap.size + 1 + 1 + 1, 0, none⟩ (.bool true)).putObj D (.deferred none)) (w.heap.size + 1 + 1) (modC m) 59) := blk_turn (hbS.out.setOther (p := ⟨w.heap.size + 1 + 1 + 1, 0, none⟩) (by show w.heap.size + 1 + 1 ≠ w.heap.size + 1 + 1 + 1; omega) _) HDF.out rfl
      have HR9 : Hid (Blk ((wS.setCell ⟨w.heap.size + 1 + 1 + 1, 0, none⟩ (.bool true)).putObj D (.deferred none)) (w.heap.size + 1 + 1 + 1) #[.bool true] 4) := blk_turn (HB9.out.set' rfl) HDF.out rfl
      refine ⟨by simp, .inl ⟨_, _, rfl, run_takeDeferred HDF.out, ?_⟩⟩
      clear e0 e1 e2 e3 e4 e5 e6 e7 e8 e9 e10 e11 e12 e13 e14
      obtain ⟨e0, e1, e2, e3, e4, e5, e6, e7, e8, e9, e10, e11, e12, e13, e14⟩ := mod15 HR8.out
      have e15 := HR9.out.cell 0 rfl
      refine ⟨.tuple #[.agg (modC m), .bool true], ?_, m, rfl, ?_⟩
      · simp [results, Try.f19, go_sem, modC, e0, e1, e2, e3, e4, e5, e6, e7, e8, e9, e10, e11, e12, e13, e14, e15]
      · exact SR.stay H.out HKK.out HT.out ((keep_turn (Keep.none (bkeep HBLW.out hkf (Nat.le_refl _) (fun q e => by omega))) (by have := HBL.out.size; omega)).below (fun _ h => h.elim) (Nat.le_refl _))
end Go.Proofs.Ytlodiibmofeikaa
