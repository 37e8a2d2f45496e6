/- clr: the law's step. -/
import Derived.Test.YthnnhagccemnnaaClrStepP
import Derived.Test.YthnnhagccemnnaaHeldChain
import Derived.BigQuiet
import Derived.Lib.MinMax
namespace Go.Proofs.Ythnnhagccemnnaa
open Go.RowKit
set_option linter.unusedVariables false
set_option linter.unusedSimpArgs false

/-- the state out of its box, as the walk meets it -/
theorem run_loadS {w : World} {b : Nat} {c : CSt} (hb : Blk w b (stC c) 45) : (Instr.loadAt 45 (.pointer (some ⟨b, 0, none⟩))).run Try.prog w = .ok (.agg (stC c)) w := by
  have hr := run_loadVar_row (P := Try.prog) w b _ _ (stC c) (0, 0) _ hb Try.underlying45 rfl (by rw [stC_size]; exact info_st1)
  simp only [Instr.loadAt, Instr.sureAddr, Sem.run_bind, Sem.run_pure, Result.andThen_ok, hr]
theorem exec_loadS {a : Act} {o : Oper} {w : World} (x : Operand) (ho : o.op = .load 45 x) (b : Nat) (hx : a.eval x = .pointer (some ⟨b, 0, none⟩)) (c : CSt) (hb : Blk w b (stC c) 45) : (execOp a.eval o).run Try.prog w = .ok (.value (.agg (stC c))) w := by
  unfold execOp
  simp only [ho, hx, Sem.run_bind, Sem.run_pure, Result.andThen_ok, run_loadS hb]

def opC (kd fr ag lt rt : Int) : Array Value := #[.int .i64 kd, .int .i64 fr, .int .i64 ag, .int .i64 lt, .int .u64 rt]
/-- what step's boxes hold: the state, the call, the result; and the book -/
structure SE (w0 w : World) (b : Nat) (v : Value) (s : CSt) (lim : Int) (p6 p9 p10 : Nat) (oc : Array Value) : Prop where
  bk : BkAt w b v (told s 64) lim s.clr
  b6 : Blk w p6 (stC s) 45
  b9 : Blk w p9 oc 31
  b10 : Blk w p10 (stC (st0 0)) 45
  bel : Below w0.heap.size w0 w
theorem SE.below {w0 w w' : World} {b : Nat} {v : Value} {s : CSt} {lim : Int} {p6 p9 p10 : Nat} {oc : Array Value} (h : SE w0 w b v s lim p6 p9 p10 oc) (hb : Below w.heap.size w w') : SE w0 w' b v s lim p6 p9 p10 oc :=
  ⟨h.bk.below hb, h.b6.below hb, h.b9.below hb, h.b10.below hb, bmore h.bel hb h.bel.size⟩
/-- what step leaves -/
structure StR (w w' : World) (b : Nat) (v : Value) (lim : Int) (s' : CSt) : Prop where
  ok : SOk s'
  chg : Chg w w' b v lim s'
/-- the apartness of step's boxes and the book -/
structure Lie (w0 : World) (b : Nat) (v : Value) (q6 q9 q10 : Nat) : Prop where
  lb : b < w0.heap.size
  lv : ∀ g, v.ownBlock = some g → g < w0.heap.size
  l6 : w0.heap.size ≤ q6
  l9 : w0.heap.size ≤ q9
  l10 : w0.heap.size ≤ q10
  n1 : q6 ≠ q10
  n2 : q9 ≠ q10
  n3 : q6 ≠ q9
theorem Lie.off {w0 : World} {b : Nat} {v : Value} {q6 q9 q10 p : Nat} (h : Lie w0 b v q6 q9 q10) (hp : w0.heap.size ≤ p) : ¬ (p = b ∨ v.ownBlock = some p) := by
  rintro (e | e)
  · have := h.lb; omega
  · have := h.lv p e; omega
theorem se_start {w w1 w2 : World} {b : Nat} {v : Value} {s : CSt} {lim : Int} {oc : Array Value} (h : BkAt w b v (told s 64) lim s.clr) (hb : Blk w1 w.heap.size (stC s) 45) (hl : Below w.heap.size w w1) (hs : w1.heap.size = w.heap.size + 1)
    (hz : Blk w2 (w1.alloc (.cells oc 31)).heap.size (stC (st0 0)) 45) (hl2 : Below (w1.alloc (.cells oc 31)).heap.size (w1.alloc (.cells oc 31)) w2) :
    SE w w2 b v s lim w.heap.size w1.heap.size (w1.heap.size + 1) oc ∧ Lie w b v w.heap.size w1.heap.size (w1.heap.size + 1) := by
  have hz1 : (w1.alloc (.cells oc 31)).heap.size = w1.heap.size + 1 := by simp
  have hl1 : Below w1.heap.size w1 (w1.alloc (.cells oc 31)) := (Below.refl _ w1).alloc (Nat.le_refl _) _
  rw [hz1] at hz
  refine ⟨⟨((h.below hl).below hl1).below hl2, (hb.below hl1).below hl2, (Blk.new w1 _ _).below hl2, hz, bmore (bmore hl hl1 hl.size) hl2 (Nat.le_trans hl.size hl1.size)⟩, h.str.lt, fun g hg => (h.ne hg).2, Nat.le_refl _, by omega, by omega, by omega, by omega, by omega⟩
theorem Keep.trans' {S : Nat → Prop} {w w6 w9 : World} {q : Nat} (h : Keep S w w6) (hk : Keep (fun k => k = q) w6 w9) (lq : w.heap.size ≤ q) : Keep S w w9 :=
  h.trans hk (fun k hk e => by omega)
/-- what is left of the book, since the world ahead of step's boxes -/
structure ChO (w w' : World) (b : Nat) (v : Value) (lim : Int) (s' : CSt) (q : Nat) : Prop where
  ex : ∃ v', BkAt w' b v' (told s' 64) lim s'.clr ∧ (∀ g, v'.ownBlock = some g → v.ownBlock = some g ∨ (w.heap.size ≤ g ∧ g ≠ q))
  kp : Keep (fun k => k = b ∨ v.ownBlock = some k) w w'
theorem chO_of {w w5 w6 : World} {b : Nat} {v : Value} {lim : Int} {s' : CSt} {q : Nat} (hb : Below w.heap.size w w5) (hq : q < w5.heap.size) (h : Chg w5 w6 b v lim s') : ChO w w6 b v lim s' q := by
  obtain ⟨⟨v', h1, h2⟩, hk⟩ := h
  exact ⟨⟨v', h1, fun g hg => (h2 g hg).imp id (fun x => ⟨Nat.le_trans hb.size x, by omega⟩)⟩, (Keep.ofBelowAll hb).trans hk (fun _ _ h => h)⟩
theorem ChO.fin {w w6 w9 : World} {b : Nat} {v : Value} {lim : Int} {s' : CSt} {q : Nat} (h : ChO w w6 b v lim s' q) (hk : Keep (fun k => k = q) w6 w9) (lv : ∀ g, v.ownBlock = some g → g < w.heap.size) (lb : b < w.heap.size) (lq : w.heap.size ≤ q) : Chg w w9 b v lim s' := by
  obtain ⟨⟨v', h1, h2⟩, h3⟩ := h
  refine ⟨⟨v', h1.keep hk (by omega) (fun g hg e => ?_), fun g hg => (h2 g hg).imp id (fun x => x.1)⟩, h3.trans' hk lq⟩
  rcases h2 g hg with x | x
  · have := lv g x; omega
  · exact x.2 e
set_option maxRecDepth 100000 in
set_option maxHeartbeats 2000000 in
theorem step_1 (b : Nat) (v : Value) (s : CSt) (lim now fr ag lt rt : Int) (w : World) (h : BkAt w b v (told s 64) lim s.clr) (ho : SOk s) (hl : 0 ≤ lim) (hw : 0 ≤ now ∧ now ≤ 1000000) :
    Calls Try.prog 13 #[.pointer (some ⟨b, 0, none⟩), .agg (stC s), .int .i64 lim, .int .i64 now, .agg (opC 1 fr ag lt rt)] w fun e w' => ∃ s', e = .returned (.tuple #[.agg (stC s'), .bool true]) ∧ StR w w' b v lim s' := by
  have H := Lib.hid h
  have HO := Lib.hid ho
  obtain ⟨aa, haa⟩ : ∃ aa, aa = min (max ag (-2199023255552)) 2199023255552 := ⟨_, rfl⟩
  have haa1 : -2199023255552 ≤ aa ∧ aa ≤ 2199023255552 := by omega
  have hrt := fun w => reftake_any s lim now ⟨fr, now - aa, rt⟩ w ho
  have hbt := fun w h => btake_any b v s lim now ⟨fr, now - aa, rt⟩ w h
  have hso := ho.take lim ⟨fr, now - aa, rt⟩ now
  obtain ⟨s2, hs2⟩ : ∃ x, x = takeS s lim ⟨fr, now - aa, rt⟩ now := ⟨_, rfl⟩
  obtain ⟨E, hE⟩ : ∃ x, x = mayE (told s 64) lim ⟨fr, now - aa, rt⟩ now := ⟨_, rfl⟩
  rw [← hs2, ← hE] at hrt hbt
  rw [← hs2] at hso
  have HRT := Lib.hid hrt
  have HBT := Lib.hid hbt
  have HSO := Lib.hid hso
  have HAA := Lib.hid haa
  unfold opC
  clear h ho hs2 hE hrt hbt hso haa
  go_enter Try.func13, Try.ntmps13
  go_wp2_with (first
    | (refine wpList_boxS rfl _ rfl s rfl ?_; rintro w1 - HB1 HL1 hs1)
    | (refine wpList_allocS rfl rfl ?_; rintro w2 - HZ2 HL2 hs2; have HSE := Lib.hid (se_start H.out HB1.out HL1.out hs1.out HZ2.out HL2.out); obtain ⟨x0, x1, x2, x3, x4⟩ := blk5 HSE.out.1.b9; clear HB1 HL1 HZ2 HL2 hs2)
    | (refine wpList_loadS rfl _ rfl _ rfl s ?_ ?_; exact HSE.out.1.b6))
  rw [← HAA.out]
  refine (HRT.out w2).mono ?_
  rintro e w3 ⟨rfl, hb3⟩
  have HSE3 := Lib.hid (HSE.out.1.below hb3)
  clear hb3 x0 x1 x2 x3 x4
  go_wp2_with (first
    | (refine wpList_allocS rfl rfl ?_; rintro w4 - HZ4 HL4 hs4)
    | (refine wpList_storeS rfl _ _ rfl _ rfl s2 (st0 0) rfl ?_ ?_; exact HZ4.out; rintro w5 HB5 HK5; have HSE5 := Lib.hid (HSE3.out.below (bkeep HL4.out HK5.out (Nat.le_refl _) (fun q h => by omega))); clear HZ4 HL4 HK5))
  --REGION5
  have hSW : Blk w5.drew w3.heap.size (stC s2) 45 ∧ Blk w5.drew w1.heap.size #[.int .i64 1, .int .i64 fr, .int .i64 ag, .int .i64 lt, .int .u64 rt] 31 := ⟨HB5.out, HSE5.out.b9⟩
  have hwr : IntKind.i64.wrap (now - aa) = now - aa := IntWalk.i64_in _ (by omega)
  have hee : (E == E) = true := by simp
  refine wp_region_heldT (S := fun w' => Blk w' w3.heap.size (stC s2) 45 ∧ Blk w' w1.heap.size #[.int .i64 1, .int .i64 fr, .int .i64 ag, .int .i64 lt, .int .u64 rt] 31) 14 (by kernel_rfl) hSW (fun hHeld => ?_)
  refine heldT_takeC [] (i := 0) (v := ?_) rfl (by kernel_rfl) (by kernel_rfl) (by kernel_rfl) (by kernel_rfl) (fun _ _ _ h => h) (Or.inl ⟨by rfl, ?_⟩) hHeld ?_
  rotate_left 1
  · intro wS hSw; (refine exec_loadS (Operand.tmp 13) ?_ w3.heap.size ?_ s2 hSw.1 <;> rfl)
  (try simp only [Act.put, List.setIfInBounds_toArray, List.set_cons_zero, List.set_cons_succ])
  refine heldT_free (i := 1) (v := ?_) rfl (by kernel_rfl) (by kernel_rfl) (by kernel_rfl) (by kernel_rfl) (fun _ _ _ h => h) (Or.inl ⟨by rfl, ?_⟩) hHeld ?_
  rotate_left 1
  · intro wS; go_simp <;> with_reducible rfl
  (try simp only [Act.put, List.setIfInBounds_toArray, List.set_cons_zero, List.set_cons_succ])
  refine heldT_free (i := 2) (v := ?_) rfl (by kernel_rfl) (by kernel_rfl) (by kernel_rfl) (by kernel_rfl) (fun _ _ _ h => h) (Or.inl ⟨by rfl, ?_⟩) hHeld ?_
  rotate_left 1
  · intro wS; go_simp <;> with_reducible rfl
  (try simp only [Act.put, List.setIfInBounds_toArray, List.set_cons_zero, List.set_cons_succ])
  refine heldT_takeC [11, 9] (i := 3) (v := ?_) rfl (by kernel_rfl) (by kernel_rfl) (by kernel_rfl) (by kernel_rfl) (fun _ _ _ h => h) (Or.inl ⟨by rfl, ?_⟩) hHeld ?_
  rotate_left 1
  · intro wS hSw; obtain ⟨e0, e1, e2, e3, e4⟩ := blk5 hSw.2; clear hSw; go_simp <;> with_reducible rfl
  (try simp only [Act.put, List.setIfInBounds_toArray, List.set_cons_zero, List.set_cons_succ])
  refine heldT_free (i := 4) (v := ?_) rfl (by kernel_rfl) (by kernel_rfl) (by kernel_rfl) (by kernel_rfl) (fun _ _ _ h => h) (Or.inl ⟨by rfl, ?_⟩) hHeld ?_
  rotate_left 1
  · intro wS; go_simp <;> with_reducible rfl
  (try simp only [Act.put, List.setIfInBounds_toArray, List.set_cons_zero, List.set_cons_succ])
  refine heldT_free (i := 5) (v := ?_) rfl (by kernel_rfl) (by kernel_rfl) (by kernel_rfl) (by kernel_rfl) (fun _ _ _ h => h) (Or.inl ⟨by rfl, ?_⟩) hHeld ?_
  rotate_left 1
  · intro wS; go_simp <;> with_reducible rfl
  (try simp only [Act.put, List.setIfInBounds_toArray, List.set_cons_zero, List.set_cons_succ])
  refine heldT_free (i := 6) (v := ?_) rfl (by kernel_rfl) (by kernel_rfl) (by kernel_rfl) (by kernel_rfl) (fun _ _ _ h => h) (Or.inl ⟨by rfl, ?_⟩) hHeld ?_
  rotate_left 1
  · intro wS; go_simp <;> with_reducible rfl
  (try simp only [Act.put, List.setIfInBounds_toArray, List.set_cons_zero, List.set_cons_succ])
  refine heldT_free (i := 7) (v := ?_) rfl (by kernel_rfl) (by kernel_rfl) (by kernel_rfl) (by kernel_rfl) (fun _ _ _ h => h) (Or.inl ⟨by rfl, ?_⟩) hHeld ?_
  rotate_left 1
  · intro wS; go_simp <;> with_reducible rfl
  (try simp only [Act.put, List.setIfInBounds_toArray, List.set_cons_zero, List.set_cons_succ])
  refine heldT_takeC [11, 9] (i := 8) (v := ?_) rfl (by kernel_rfl) (by kernel_rfl) (by kernel_rfl) (by kernel_rfl) (fun _ _ _ h => h) (Or.inl ⟨by rfl, ?_⟩) hHeld ?_
  rotate_left 1
  · intro wS hSw; obtain ⟨e0, e1, e2, e3, e4⟩ := blk5 hSw.2; clear hSw; go_simp <;> with_reducible rfl
  (try simp only [Act.put, List.setIfInBounds_toArray, List.set_cons_zero, List.set_cons_succ])
  refine heldT_free (i := 9) (v := ?_) rfl (by kernel_rfl) (by kernel_rfl) (by kernel_rfl) (by kernel_rfl) (fun _ _ _ h => h) (Or.inl ⟨by rfl, ?_⟩) hHeld ?_
  rotate_left 1
  · intro wS; go_simp <;> with_reducible rfl
  (try simp only [Act.put, List.setIfInBounds_toArray, List.set_cons_zero, List.set_cons_succ])
  refine heldT_free (i := 10) (v := ?_) rfl (by kernel_rfl) (by kernel_rfl) (by kernel_rfl) (by kernel_rfl) (fun _ _ _ h => h) (Or.inl ⟨by rfl, ?_⟩) hHeld ?_
  rotate_left 1
  · intro wS; go_simp <;> with_reducible rfl
  (try simp only [Act.put, List.setIfInBounds_toArray, List.set_cons_zero, List.set_cons_succ])
  refine heldT_free (i := 12) (v := ?_) rfl (by kernel_rfl) (by kernel_rfl) (by kernel_rfl) (by kernel_rfl) (fun _ _ _ h => h) (Or.inl ⟨by rfl, ?_⟩) hHeld ?_
  rotate_left 1
  · intro wS; go_simp <;> with_reducible rfl
  (try simp only [Act.put, List.setIfInBounds_toArray, List.set_cons_zero, List.set_cons_succ])
  refine heldT_one (j := 11) (by kernel_rfl) (by kernel_rfl) rfl (fun K hK => ?_)
  go_simp
  go_at_call 11
  refine (HBT.out w5.drew HSE5.out.bk.drew).mono ?_
  rintro e w6 ⟨rfl, hch⟩
  have HB6 := Lib.hid (HB5.out.drew.keep hch.kp (HSE.out.2.off (by have := HSE3.out.bel.size; omega)))
  have HO6 := Lib.hid (HSE5.out.b9.drew.keep hch.kp (HSE.out.2.off HSE.out.2.l9))
  have HB10 := Lib.hid (HSE5.out.b10.drew.keep hch.kp (HSE.out.2.off HSE.out.2.l10))
  have HCH : Hid (ChO w w6 b v lim s2 (w1.heap.size + 1)) := chO_of (HSE5.out.bel.drew) (HSE5.out.b10.drew.lt) hch
  clear hch
  go_wp2_with fail
  refine hK.out _ _ ⟨HB6.out, HO6.out⟩ (fun hHeld => ?_)
  clear hK K
  (try simp only [Act.put, List.setIfInBounds_toArray, List.set_cons_zero, List.set_cons_succ])
  refine heldT_free (i := 13) (v := ?_) rfl (by kernel_rfl) (by kernel_rfl) (by kernel_rfl) (by kernel_rfl) (fun _ _ _ h => h) (Or.inl ⟨by rfl, ?_⟩) hHeld ?_
  rotate_left 1
  · intro wS; go_simp <;> with_reducible rfl
  (try simp only [Act.put, List.setIfInBounds_toArray, List.set_cons_zero, List.set_cons_succ])
  refine heldT_tail (by kernel_rfl) rfl rfl (by kernel_rfl) ?_
  (try simp only [List.drop_succ_cons, List.drop_zero])
  go_wp2_with (refine wpList_storeS rfl _ _ rfl _ rfl s2 (st0 0) rfl ?_ ?_; exact HB10.out; rintro w9 HB9 HK9)
  refine NoPanic.normal ?_
  have hr := run_loadVar_row (P := Try.prog) w9 (w1.heap.size + 1) _ _ _ (0, 0) _ HB9.out Try.underlying45 rfl (by rw [stC_size]; exact info_st1)
  go_wp2_with fail
  exact bodyPost_ret (v := .tuple #[.agg (stC s2), .bool true]) (by simp [results, Try.f13, Act.put, asAddr, hr]) rfl ⟨s2, rfl, HSO.out, HCH.out.fin HK9.out HSE.out.2.lv HSE.out.2.lb HSE.out.2.l10⟩
end Go.Proofs.Ythnnhagccemnnaa
