/- marks: the law Steps is walked. -/
import Derived.Test.YtmiholjmagobhaaMarksCase
namespace Go.Proofs.Ytmiholjmagobhaa
open Go.RowKit
set_option linter.unusedVariables false
set_option linter.unusedSimpArgs false

theorem mark_cases {c : Cho} (h : c.Ok) (n : Int) (rates : List Int) (own now : Int) :
    ((c.mark n rates own now).2 = 1 ∧ 0 ≤ c.level ∧ n = c.level + 1 ∧ n < rates.length ∧ rates.getD n.toNat 0 ≤ own ∧ (c.mark n rates own now).1.level = n ∧ (c.mark n rates own now).1.steps = c.steps ++ [(c.level, n, n)] ∧ 0 ≤ now ∧ now ≤ 1099511627776) ∨
    ((c.mark n rates own now).2 = -1 ∧ n = c.level ∧ 0 < n ∧ n < rates.length ∧ own < rates.getD n.toNat 0 ∧ (c.mark n rates own now).1.level = n - 1 ∧ (c.mark n rates own now).1.steps = c.steps ++ [(c.level, n - 1, n)] ∧ 0 ≤ now ∧ now ≤ 1099511627776) ∨
    ((c.mark n rates own now).2 = 0 ∧ (c.mark n rates own now).1 = c ∧ (0 ≤ now → now ≤ 1099511627776 → 0 < c.level → c.level < rates.length → n = c.level → rates.getD n.toNat 0 ≤ own)) := by
  have hlo := h.lo
  have hhi := h.hi
  unfold Cho.mark
  split
  · right; right
    exact ⟨rfl, rfl, fun _ _ _ _ _ => by omega⟩
  split
  · rename_i h1 h2
    right; left
    refine ⟨rfl, h2.1, h2.2.1, by omega, h2.2.2, ?_, ?_, by omega, by omega⟩
    · rw [h2.1]; unfold Cho.drop; simp only; split <;> rfl
    · rw [drop_steps, ← h2.1]
  split
  · rename_i h1 h2 h3
    left
    exact ⟨rfl, by omega, h3.1, by omega, h3.2.2.1, rfl, rfl, by omega, by omega⟩
  · rename_i h1 h2 h3
    right; right
    exact ⟨rfl, rfl, fun _ _ h4 h5 h6 => by omega⟩

/-- steps that hang together, from one level to another -/
def Linked : Int → List (Int × Int × Int) → Int → Prop
  | s, [], e => s = e
  | s, (f, t, _) :: l, e => f = s ∧ t ≠ f ∧ Linked t l e
theorem Linked.snoc : ∀ {l : List (Int × Int × Int)} {s e t a : Int}, Linked s l e → t ≠ e → Linked s (l ++ [(e, t, a)]) t
  | [], s, e, t, a, h, hne => by cases h; exact ⟨rfl, hne, rfl⟩
  | (f, x, y) :: l, s, e, t, a, h, hne => ⟨h.1, h.2.1, Linked.snoc h.2.2 hne⟩
theorem Linked.part : ∀ {l : List (Int × Int × Int)} {s e : Int} (k : Nat), Linked s l e → ∃ m, Linked s (l.take k) m ∧ Linked m (l.drop k) e
  | l, s, e, 0, h => ⟨s, by simp [Linked], by simpa using h⟩
  | [], s, e, k + 1, h => ⟨s, by simp [Linked], by simpa [Linked] using h⟩
  | (f, x, y) :: l, s, e, k + 1, h => by
    obtain ⟨m, h1, h2⟩ := Linked.part k h.2.2
    exact ⟨m, ⟨h.1, h.2.1, h1⟩, h2⟩

structure StI (c : Cho) (k : Nat) : Prop where
  ok : c.Ok
  link : Linked (-1) c.steps c.level
  len : c.steps.length ≤ k
theorem StI.to {c : Cho} {k : Nat} (h : StI c k) {x y : Int} (hx : -1 ≤ x ∧ x ≤ 7) (hne : x ≠ c.level) : StI (c.to x y) (k + 1) :=
  ⟨to_ok h.ok hx, h.link.snoc hne, by simp [Cho.to]; exact h.len⟩
theorem StI.stay {c : Cho} {k : Nat} (h : StI c k) : StI c (k + 1) := ⟨h.ok, h.link, Nat.le_succ_of_le h.len⟩
theorem StI.mark {c : Cho} {k : Nat} (h : StI c k) (n : Int) (rates : List Int) (own now : Int) : StI (c.mark n rates own now).1 (k + 1) := by
  refine ⟨mark_ok h.ok _ _ _ _, ?_, Nat.le_trans (mark_steps _ _ _ _ _) (Nat.add_le_add_right h.len 1)⟩
  rcases mark_cases h.ok n rates own now with ⟨-, -, h1, -, -, h2, h3, -⟩ | ⟨-, h1, h0, -, -, h2, h3, -⟩ | ⟨-, h1, -⟩
  · rw [h2, h3]; exact h.link.snoc (by omega)
  · rw [h2, h3]; exact h.link.snoc (by omega)
  · rw [h1]; exact h.link

theorem blk4 {w : World} {b : Nat} {v0 v1 v2 v3 : Value} {T : TypeId} (h : Blk w b #[v0, v1, v2, v3] T) : w.cell? ⟨b, 0, none⟩ = some v0 ∧ w.cell? ⟨b, 1, none⟩ = some v1 ∧ w.cell? ⟨b, 2, none⟩ = some v2 ∧ w.cell? ⟨b, 3, none⟩ = some v3 :=
  ⟨h.cell 0 rfl, h.cell 1 rfl, h.cell 2 rfl, h.cell 3 rfl⟩
theorem blk5 {w : World} {b : Nat} {v0 v1 v2 v3 v4 : Value} {T : TypeId} (h : Blk w b #[v0, v1, v2, v3, v4] T) : w.cell? ⟨b, 0, none⟩ = some v0 ∧ w.cell? ⟨b, 1, none⟩ = some v1 ∧ w.cell? ⟨b, 2, none⟩ = some v2 ∧ w.cell? ⟨b, 3, none⟩ = some v3 ∧ w.cell? ⟨b, 4, none⟩ = some v4 :=
  ⟨h.cell 0 rfl, h.cell 1 rfl, h.cell 2 rfl, h.cell 3 rfl, h.cell 4 rfl⟩
theorem Blk.below {w w' : World} {b : Nat} {cs : Array Value} {T : TypeId} (h : Blk w b cs T) (hb : Below w.heap.size w w') : Blk w' b cs T := h.keep (Keep.none hb) id

set_option maxRecDepth 100000 in
set_option maxHeartbeats 8000000 in
theorem marksSteps_any (first longest fresh : Int) (v : Value) (ops : List OpD) (w : World) (h : CaseOk w v ops) :
    Calls Try.prog 6 #[.agg #[.int .i64 first, .int .i64 longest, .int .i64 fresh, v]] w fun e w' => e = .returned (.bool true) ∧ Below w.heap.size w w' := by
  obtain ⟨A, k0, rfl, -⟩ := h.reads.val
  have hz := (Below.refl w.heap.size w).alloc (Nat.le_refl _) (.cells #[.int .i64 first, .int .i64 longest, .int .i64 fresh, .slice A ops.length k0] 39)
  have hzs : w.heap.size ≤ (w.alloc (.cells #[.int .i64 first, .int .i64 longest, .int .i64 fresh, .slice A ops.length k0] 39)).heap.size := by simp
  have hZ := Blk.new w #[.int .i64 first, .int .i64 longest, .int .i64 fresh, .slice A ops.length k0] 39
  have hcz := h.below hz
  have hlen := h.len
  clear h
  by_cases hok : NewOk first longest fresh
  · have HRT := Lib.hid (fun w => right_yes first longest fresh A ops.length k0 w hok)
    by_cases hli : (lightN ops : Int) ≤ 200
    · have HN := Lib.hid (fun w => new_yes first longest fresh w hok)
      have HC : Hid (StI (Cho.fresh0 first longest fresh) 0) := ⟨fresh0_ok hok, rfl, Nat.le_refl _⟩
      have hll : ops.length ≤ 200 := by have := len_lightN ops; omega
      have HLI : Hid (∀ w, CaseOk w (.slice A ops.length k0) ops → Calls Try.prog 15 #[.agg #[.int .i64 first, .int .i64 longest, .int .i64 fresh, .slice A ops.length k0]] w fun e w' => e = .returned (.bool true) ∧ Below w.heap.size w w') := fun w hw => by
        have := light_any first longest fresh _ ops w hw
        rw [decide_eq_true hli] at this
        exact this
      generalize Cho.fresh0 first longest fresh = c0 at *
      clear hli hok
      go_enter Try.func6, Try.ntmps6
      go_wp2_with fail
      generalize w.alloc (.cells #[.int .i64 first, .int .i64 longest, .int .i64 fresh, .slice A ops.length k0] 39) = wz at *
      refine (HRT.out _).mono ?_
      rintro e w1 ⟨rfl, hb1⟩
      obtain ⟨z0, z1, z2, z3⟩ := blk4 (hZ.below hb1)
      go_wp2_with fail
      refine (HLI.out _ (hcz.below hb1)).mono ?_
      rintro e w2 ⟨rfl, hb2⟩
      have q2 := bmore hb1 hb2 hb1.size
      clear z0 z1 z2 z3 hb1 hb2
      obtain ⟨z0, z1, z2, z3⟩ := blk4 (hZ.below q2)
      go_wp2_with fail
      refine (HN.out _).mono ?_
      rintro e w3 ⟨b, rfl, h3, hb3⟩
      have q3 := bmore q2 hb3 q2.size
      replace h3 : ChoAt w3 (fun k => wz.heap.size ≤ k) b c0 := h3.mono (fun k hk => Nat.le_trans q2.size hk.1)
      clear z0 z1 z2 z3 hb3 q2
      obtain ⟨z0, z1, z2, z3⟩ := blk4 (hZ.below q3)
      have HCZ := Lib.hid hcz
      clear hcz
      go_wp2_with fail
      clear z0 z1 z2 z3
      go_loopw [5, 7, 44] (fun now _ i wr => ∃ (k : Nat) (t : Int) (c : Cho), k ≤ ops.length ∧ i = .int .i64 k ∧ now = .int .i64 t ∧ 0 ≤ t ∧ t ≤ k * 1048576 ∧ Hid (StI c k) ∧ Hid (ChoAt wr (fun k => wz.heap.size ≤ k) b c) ∧ Below wz.heap.size wz wr) (fun _ _ i _ => ops.length - (intOf i).toNat)
      case atStart => exact ⟨0, 0, c0, by omega, rfl, rfl, by omega, by omega, HC, h3, q3⟩
      case round =>
        clear h3 q3
        obtain ⟨k, t, c, hk, rfl, rfl, t0, t1, hst, hch, hb⟩ := hrel
        have hsl := hst.out.len
        by_cases hlt : k < ops.length
        · obtain ⟨o, g, p, c', ho, hook, he, d0, d1, d2, d3, d4⟩ := (HCZ.out.below hb).at hlt
          cases he
          obtain ⟨A', k', hv, -⟩ := hook.rates.val
          have hrr := hook.rates
          have HRW := Lib.hid ((HCZ.out.each o (List.mem_of_getElem? ho)).rates.lt)
          have hol := hook.len
          rw [hv] at d3 hrr HRW
          have hO := Blk.new wr #[.int .i64 o.kind, .int .i64 o.layer, .int .i64 o.later, .slice A' o.rates.length k', .int .u64 o.own] 45
          have hbo := hb.alloc hb.size (.cells #[.int .i64 o.kind, .int .i64 o.layer, .int .i64 o.later, .slice A' o.rates.length k', .int .u64 o.own] 45)
          have hro := hrr.alloc (.cells #[.int .i64 o.kind, .int .i64 o.layer, .int .i64 o.later, .slice A' o.rates.length k', .int .u64 o.own] 45)
          have hc1 : ChoAt (wr.alloc (.cells #[.int .i64 o.kind, .int .i64 o.layer, .int .i64 o.later, .slice A' o.rates.length k', .int .u64 o.own] 45)) (fun k => wz.heap.size ≤ k ∧ k < wr.heap.size) b c :=
            (Hid.out hch).lt.keep (S := fun _ => False) ((Keep.refl _ _).alloc _) (fun _ _ => id)
          have hHO := Lib.hid hO
          have hHR := Lib.hid hro
          clear hO hro hrr hook ho hch
          go_wp2_with fail
          generalize wr.alloc (.cells #[.int .i64 o.kind, .int .i64 o.layer, .int .i64 o.later, .slice A' o.rates.length k', .int .u64 o.own] 45) = wo at *
          obtain ⟨T, hT⟩ : ∃ T, T = t + min (max o.later 0) 1048576 := ⟨_, rfl⟩
          have hT0 : 0 ≤ T := by omega
          have hT1 : T ≤ (k + 1 : Nat) * 1048576 := by omega
          have hT2 : T ≤ 1000000000000 := by omega
          have hlat := later_any t o.later wo ⟨t0, by omega⟩
          rw [← hT] at hlat
          clear hT
          obtain ⟨e0, e1, e2, e3, e4⟩ := blk5 hHO.out
          refine hlat.mono ?_
          rintro e wo ⟨rfl, rfl⟩
          go_wp2_with fail
          refine (level_any b _ c _ hc1).mono ?_
          rintro e wo ⟨rfl, rfl⟩
          go_wp2_with fail
          refine (steps_any b _ c _ hc1 (by omega)).mono ?_
          rintro e w5 ⟨A5, k5, rfl, -, hb5⟩
          have hc5 := hc1.keep (Keep.none hb5) (fun _ _ => id)
          have q5 := bmore hbo hb5 hbo.size
          have hO5 := (Hid.out hHO).below hb5
          have hR5 := (Hid.out hHR).below hb5
          have s5 := hb5.size
          have s50 := hO5.lt
          clear e0 e1 e2 e3 e4 hlat hc1 hHO hHR hb5 hbo hb
          obtain ⟨e0, e1, e2, e3, e4⟩ := blk5 hO5
          have HO5 := Lib.hid hO5
          clear hO5
          have hcz5 : ChoAt w5 (fun k => wz.heap.size ≤ k) b c := hc5.mono (fun k hk => hk.1)
          by_cases kd1 : o.kind = 1
          · rw [kd1] at e0
            clear kd1
            have hmk := mark_any b _ c o.layer o.own T _ o.rates w5 hc5 (by omega) hst.out.ok hR5 (by omega)
            have hmc := mark_cases hst.out.ok o.layer o.rates o.own T
            have hst2 : Hid (StI (c.mark o.layer o.rates o.own T).1 (k + 1)) := hst.out.mark _ _ _ _
            generalize c.mark o.layer o.rates o.own T = cm at *
            obtain ⟨c2, d⟩ := cm
            simp only at hmk hmc hst2
            obtain ⟨n, hn⟩ : ∃ n, n = c.steps.length := ⟨_, rfl⟩
            obtain ⟨L, hL⟩ : ∃ L, L = c.level := ⟨_, rfl⟩
            have hLb : -1 ≤ L ∧ L ≤ 7 := by rw [hL]; exact ⟨hst.out.ok.lo, hst.out.ok.hi⟩
            rw [← hn] at hsl ⊢
            rw [← hL] at hmc ⊢
            have HHN := Lib.hid hn
            have HL0 := Lib.hid hL
            clear hc5 hcz5 hn hL hst
            go_wp2_with fail
            refine hmk.mono ?_
            rintro e w6 ⟨rfl, h6, k6⟩
            have q6 := bkeep q5 k6 (Nat.le_refl _) (fun _ h => h.1)
            have hO6 := (Hid.out HO5).keep k6 (fun h => by have := h.2; omega)
            have hR6 := hR5.keep k6 (fun g' hg' h0 hF => by have := HRW.out g' hg' h0; have := hF.1; omega)
            have h6' : ChoAt w6 (fun k => wz.heap.size ≤ k) b c2 := h6.mono (fun k hk => hk.elim (fun h => h.1) (fun h => Nat.le_trans q5.size h))
            have s6 := k6.size
            clear e0 e1 e2 e3 e4 HO5 hmk h6 k6 hR5 q5
            obtain ⟨e0, e1, e2, e3, e4⟩ := blk5 hO6
            have HO6 := Lib.hid hO6
            clear hO6
            rcases hmc with ⟨rfl, m1, m2, m3, m4, m5, m6, m7, m8⟩ | ⟨rfl, m1, m2, m3, m4, m5, m6, m7, m8⟩ | ⟨rfl, rfl, m1⟩
            · obtain ⟨L2, hL2⟩ : ∃ L2, L2 = c2.level := ⟨_, rfl⟩
              rw [← hL2] at m5
              have hlv := level_any b _ c2 _ h6'
              rw [← hL2] at hlv
              have t1 : ((1 : Int) != L2 - L) = false := by rw [bne_eq_false_iff_eq]; omega
              have t2 : (o.layer != L + 1) = false := by rw [bne_eq_false_iff_eq]; exact m2
              have t3 : (o.layer == L) = false := by rw [beq_eq_false_iff_ne]; omega
              have l0 : 0 ≤ o.layer := by omega
              obtain ⟨rg, ro, rc, hre, hrc⟩ := hR6.at o.layer.toNat (.int .u64 (o.rates.getD o.layer.toNat 0)) (by simp [show o.layer.toNat < o.rates.length by omega])
              cases hre
              generalize o.rates.getD o.layer.toNat 0 = X at *
              have M6 := Lib.hid m6
              have l1 : L < o.rates.length := by omega
              have l2 : -1 ≤ L2 := by omega
              have l3 : L2 ≤ 8 := by omega
              have HL2 := Lib.hid hL2
              have l5 : L2 = o.layer := m5
              have HL5 := Lib.hid l5
              have HM2 := Lib.hid m2
              clear hL2 m5 m6 m2 l5 hR6
              go_wp2_with fail
              refine hlv.mono ?_
              rintro e w6 ⟨rfl, rfl⟩
              go_wp2_with fail
              have w1_ : IntKind.i64.wrap (L + 1) = L + 1 := IntWalk.i64_in _ (by omega)
              go_quiet (fail)
              obtain ⟨q1_, rfl⟩ : ∃ m, m = nq := ⟨_, rfl⟩
              go_wp2_with fail
              go_quiet (fail)
              obtain ⟨q2_, rfl⟩ : ∃ m, m = nq := ⟨_, rfl⟩
              clear w1_
              have hst6 := steps_any b _ c2 (w6.drewN (q1_ + q2_)) (h6'.drewN _) (by rw [M6.out, List.length_append, ← HHN.out]; simp; omega)
              rw [M6.out, List.length_append, ← HHN.out, ← HL5.out] at hst6
              replace q6 := below_drewN q6 (q1_ + q2_)
              replace h6' := h6'.drewN (q1_ + q2_)
              have hO7 := (Hid.out HO6).drewN (q1_ + q2_)
              go_wp2_with fail
              refine hst6.mono ?_
              generalize w6.drewN (q1_ + q2_) = w7 at *
              rintro e w8 ⟨A8, k8, rfl, ho8, hb8⟩
              obtain ⟨g8, o8, c8, he8, hc8⟩ := (show Reads w8 3 (.slice A8 (n + 1) k8) (n + 1) ((c.steps ++ [(L, L2, L2)]).flatMap (fun s => [Value.int .i64 s.1, .int .i64 s.2.1, .int .i64 s.2.2])) from Reads.of_owns ho8).elem (fun _ => rfl) (by omega) (k := n) (x := (L, L2, L2)) (by rw [HHN.out]; simp)
              cases he8
              have s0 := hc8 0 _ rfl
              have s1 := hc8 1 _ rfl
              have s2 := hc8 2 _ rfl
              simp only [Nat.add_zero] at s0 s1 s2
              have q8 := bmore q6 hb8 q6.size
              have h8 := h6'.keep (Keep.none hb8) (fun _ _ => id)
              have hO8 := hO7.below hb8
              clear e0 e1 e2 e3 e4 hst6 ho8 hc8 hO7 q6 h6' hb8
              obtain ⟨e0, e1, e2, e3, e4⟩ := blk5 hO8
              rw [← HL5.out] at e1
              clear hO8
              have t5 : ((n : Int) + 1 != (n : Int) + 1) = false := by simp
              have w1_ : IntKind.i64.wrap (L + 1) = L + 1 := IntWalk.i64_in _ (by omega)
              have w2_ : IntKind.i64.wrap ((n : Int) + 1) = (n : Int) + 1 := IntWalk.i64_in _ (by omega)
              have l7 : L2 = L + 1 := by rw [HL5.out]; exact HM2.out
              go_wp2_with fail
              go_quiet (fail)
              clear w1_ w2_
              obtain ⟨q3_, rfl⟩ : ∃ m, m = nq := ⟨_, rfl⟩
              go_wp2_with fail
              go_roundw
              case rel => exact ⟨k + 1, T, c2, by omega, by go_num, rfl, hT0, hT1, hst2, h8.drewN _, below_drewN q8 _⟩
              case measure => simp [intOf]; omega
            · obtain ⟨L2, hL2⟩ : ∃ L2, L2 = c2.level := ⟨_, rfl⟩
              rw [← hL2] at m5
              have hlv := level_any b _ c2 _ h6'
              rw [← hL2] at hlv
              rw [m1] at e1 m2 m3 m4 m5 m6
              have t1 : ((-1 : Int) != L2 - L) = false := by rw [bne_eq_false_iff_eq]; omega
              have l0 : 0 ≤ L := by omega
              obtain ⟨rg, ro, rc, hre, hrc⟩ := hR6.at L.toNat (.int .u64 (o.rates.getD L.toNat 0)) (by simp [show L.toNat < o.rates.length by omega])
              cases hre
              generalize o.rates.getD L.toNat 0 = X at *
              have M6 := Lib.hid m6
              have l2 : -1 ≤ L2 := by omega
              have l3 : L2 ≤ 8 := by omega
              have HL2 := Lib.hid hL2
              have l5 : L2 = L - 1 := m5
              have HL5 := Lib.hid l5
              have HM1 := Lib.hid m1
              clear hL2 m5 m6 l5 m1 hR6
              go_wp2_with fail
              refine hlv.mono ?_
              rintro e w6 ⟨rfl, rfl⟩
              go_wp2_with fail
              go_quiet (fail)
              obtain ⟨q1_, rfl⟩ : ∃ m, m = nq := ⟨_, rfl⟩
              go_wp2_with fail
              go_quiet (fail)
              obtain ⟨q2_, rfl⟩ : ∃ m, m = nq := ⟨_, rfl⟩
              have hst6 := steps_any b _ c2 (w6.drewN (q1_ + q2_)) (h6'.drewN _) (by rw [M6.out, List.length_append, ← HHN.out]; simp; omega)
              rw [M6.out, List.length_append, ← HHN.out, ← HL5.out] at hst6
              replace q6 := below_drewN q6 (q1_ + q2_)
              replace h6' := h6'.drewN (q1_ + q2_)
              have hO7 := (Hid.out HO6).drewN (q1_ + q2_)
              go_wp2_with fail
              refine hst6.mono ?_
              generalize w6.drewN (q1_ + q2_) = w7 at *
              rintro e w8 ⟨A8, k8, rfl, ho8, hb8⟩
              obtain ⟨g8, o8, c8, he8, hc8⟩ := (show Reads w8 3 (.slice A8 (n + 1) k8) (n + 1) ((c.steps ++ [(L, L2, L)]).flatMap (fun s => [Value.int .i64 s.1, .int .i64 s.2.1, .int .i64 s.2.2])) from Reads.of_owns ho8).elem (fun _ => rfl) (by omega) (k := n) (x := (L, L2, L)) (by rw [HHN.out]; simp)
              cases he8
              have s0 := hc8 0 _ rfl
              have s1 := hc8 1 _ rfl
              have s2 := hc8 2 _ rfl
              simp only [Nat.add_zero] at s0 s1 s2
              have q8 := bmore q6 hb8 q6.size
              have h8 := h6'.keep (Keep.none hb8) (fun _ _ => id)
              have hO8 := hO7.below hb8
              clear e0 e1 e2 e3 e4 hst6 ho8 hc8 hO7 q6 h6' hb8
              obtain ⟨e0, e1, e2, e3, e4⟩ := blk5 hO8
              rw [HM1.out] at e1
              clear hO8
              have t5 : ((n : Int) + 1 != (n : Int) + 1) = false := by simp
              have w1_ : IntKind.i64.wrap (L + -1) = L + -1 := IntWalk.i64_in _ (by omega)
              have w2_ : IntKind.i64.wrap ((n : Int) + 1) = (n : Int) + 1 := IntWalk.i64_in _ (by omega)
              have l7 : L2 = L + -1 := by rw [HL5.out]; omega
              go_wp2_with fail
              go_quiet (fail)
              clear w1_ w2_
              obtain ⟨q3_, rfl⟩ : ∃ m, m = nq := ⟨_, rfl⟩
              go_wp2_with fail
              go_roundw
              case rel => exact ⟨k + 1, T, c2, by omega, by go_num, rfl, hT0, hT1, hst2, h8.drewN _, below_drewN q8 _⟩
              case measure => simp [intOf]; omega
            · have hlv := level_any b _ c2 _ h6'
              rw [← HL0.out] at hlv
              have hTm : T ≤ 1099511627776 := by omega
              rcases (by omega : L < 0 ∨ (0 ≤ L ∧ (o.rates.length : Int) ≤ L) ∨ (0 ≤ L ∧ L < o.rates.length ∧ ¬ o.layer = L) ∨ (0 ≤ L ∧ L < o.rates.length ∧ o.layer = L ∧ L ≤ 0) ∨ (0 ≤ L ∧ L < o.rates.length ∧ o.layer = L ∧ 0 < L)) with v1 | ⟨v1, v2⟩ | ⟨v1, v2, v3⟩ | ⟨v1, v2, v3, v4⟩ | ⟨v1, v2, v3, v4⟩
              · clear m1 hR6
                go_wp2_with fail
                refine hlv.mono ?_
                rintro e w6 ⟨rfl, rfl⟩
                go_wp2_with fail
                go_quiet (fail)
                obtain ⟨q1_, rfl⟩ : ∃ m, m = nq := ⟨_, rfl⟩
                go_wp2_with fail
                go_quiet (fail)
                obtain ⟨q2_, rfl⟩ : ∃ m, m = nq := ⟨_, rfl⟩
                go_wp2_with fail
                go_roundw
                case rel => exact ⟨k + 1, T, c2, by omega, by go_num, rfl, hT0, hT1, hst2, h6'.drewN _, below_drewN q6 _⟩
                case measure => simp [intOf]; omega
              · clear m1 hR6
                go_wp2_with fail
                refine hlv.mono ?_
                rintro e w6 ⟨rfl, rfl⟩
                go_wp2_with fail
                go_quiet (fail)
                obtain ⟨q1_, rfl⟩ : ∃ m, m = nq := ⟨_, rfl⟩
                go_wp2_with fail
                go_quiet (fail)
                obtain ⟨q2_, rfl⟩ : ∃ m, m = nq := ⟨_, rfl⟩
                go_wp2_with fail
                go_roundw
                case rel => exact ⟨k + 1, T, c2, by omega, by go_num, rfl, hT0, hT1, hst2, h6'.drewN _, below_drewN q6 _⟩
                case measure => simp [intOf]; omega
              · have t3 : (o.layer == L) = false := by rw [beq_eq_false_iff_ne]; exact v3
                clear m1 hR6 v3
                go_wp2_with fail
                refine hlv.mono ?_
                rintro e w6 ⟨rfl, rfl⟩
                go_wp2_with fail
                go_quiet (fail)
                obtain ⟨q1_, rfl⟩ : ∃ m, m = nq := ⟨_, rfl⟩
                go_wp2_with fail
                go_quiet (fail)
                obtain ⟨q2_, rfl⟩ : ∃ m, m = nq := ⟨_, rfl⟩
                go_wp2_with fail
                go_roundw
                case rel => exact ⟨k + 1, T, c2, by omega, by go_num, rfl, hT0, hT1, hst2, h6'.drewN _, below_drewN q6 _⟩
                case measure => simp [intOf]; omega
              · rw [v3] at e1
                clear m1 hR6 v3
                go_wp2_with fail
                refine hlv.mono ?_
                rintro e w6 ⟨rfl, rfl⟩
                go_wp2_with fail
                go_quiet (fail)
                obtain ⟨q1_, rfl⟩ : ∃ m, m = nq := ⟨_, rfl⟩
                go_wp2_with fail
                have t7 : decide (0 < L) = false := decide_eq_false (by omega)
                go_quiet (fail)
                obtain ⟨q2_, rfl⟩ : ∃ m, m = nq := ⟨_, rfl⟩
                go_wp2_with fail
                go_roundw
                case rel => exact ⟨k + 1, T, c2, by omega, by go_num, rfl, hT0, hT1, hst2, h6'.drewN _, below_drewN q6 _⟩
                case measure => simp [intOf]; omega
              · have m4 := m1 hT0 hTm v4 v2 v3
                obtain ⟨rg, ro, rc, hre, hrc⟩ := hR6.at L.toNat (.int .u64 (o.rates.getD o.layer.toNat 0)) (by rw [v3]; simp [show L.toNat < o.rates.length by omega])
                cases hre
                generalize o.rates.getD o.layer.toNat 0 = X at *
                rw [v3] at e1
                clear m1 hR6 v3
                have t6 : decide (0 < L) = true := decide_eq_true v4
                go_wp2_with fail
                refine hlv.mono ?_
                rintro e w6 ⟨rfl, rfl⟩
                go_wp2_with fail
                go_quiet (fail)
                obtain ⟨q1_, rfl⟩ : ∃ m, m = nq := ⟨_, rfl⟩
                go_wp2_with fail
                have t7 : decide (0 < L) = true := decide_eq_true (by omega)
                go_quiet (fail)
                obtain ⟨q2_, rfl⟩ : ∃ m, m = nq := ⟨_, rfl⟩
                go_wp2_with fail
                go_roundw
                case rel => exact ⟨k + 1, T, c2, by omega, by go_num, rfl, hT0, hT1, hst2, h6'.drewN _, below_drewN q6 _⟩
                case measure => simp [intOf]; omega
          have b1 : (o.kind == 1) = false := by rw [beq_eq_false_iff_ne]; exact kd1
          by_cases kd2 : o.kind = 2
          · rw [kd2] at e0
            have hen := enter_any b _ c w5 hcz5 (by omega)
            have hst2 : Hid (StI (if c.level = -1 then c.to 0 (-1) else c) (k + 1)) := by
              show StI _ _
              split
              · exact hst.out.to (by omega) (by omega)
              · exact hst.out.stay
            clear kd1 b1 kd2 hR5
            generalize (if c.level = -1 then (0 : Int) else 24) = ee at *
            generalize (if c.level = -1 then c.to 0 (-1) else c) = c2 at *
            go_wp2_with fail
            refine hen.mono ?_
            rintro e w6 ⟨rfl, h6, k6⟩
            go_wp2_with fail
            go_roundw
            case rel => exact ⟨k + 1, T, c2, by omega, by go_num, rfl, hT0, hT1, hst2, h6.from q5.size, bkeep q5 k6 (Nat.le_refl _) (fun _ h => h)⟩
            case measure => simp [intOf]; omega
          have b2 : (o.kind == 2) = false := by rw [beq_eq_false_iff_ne]; exact kd2
          by_cases kd3 : o.kind = 3
          · rw [kd3] at e0
            have hen := leave_any b _ c w5 hcz5 (by omega)
            have hst2 : Hid (StI (if c.level = -1 then c else c.to (-1) (-1)) (k + 1)) := by
              show StI _ _
              split
              · exact hst.out.stay
              · exact hst.out.to (by omega) (by omega)
            clear kd1 b1 kd2 b2 kd3 hR5
            generalize (if c.level = -1 then (24 : Int) else 0) = ee at *
            generalize (if c.level = -1 then c else c.to (-1) (-1)) = c2 at *
            go_wp2_with fail
            refine hen.mono ?_
            rintro e w6 ⟨rfl, h6, k6⟩
            go_wp2_with fail
            go_roundw
            case rel => exact ⟨k + 1, T, c2, by omega, by go_num, rfl, hT0, hT1, hst2, h6.from q5.size, bkeep q5 k6 (Nat.le_refl _) (fun _ h => h)⟩
            case measure => simp [intOf]; omega
          have b3 : (o.kind == 3) = false := by rw [beq_eq_false_iff_ne]; exact kd3
          have hst2 : Hid (StI c (k + 1)) := hst.out.stay
          clear kd1 kd2 kd3 hR5
          go_wp2_with fail
          go_roundw
          case rel => exact ⟨k + 1, T, c, by omega, by go_num, rfl, hT0, hT1, hst2, hcz5, q5⟩
          case measure => simp [intOf]; omega
        · obtain rfl : k = ops.length := by omega
          have hlk := hst.out.link
          have hst6 := steps_any b _ c wr hch.out (by omega)
          obtain ⟨n, hn⟩ : ∃ n, n = c.steps.length := ⟨_, rfl⟩
          rw [← hn] at hst6 hsl
          have HN2 := Lib.hid hn
          have HLK : Hid (Linked (-1) (c.steps.drop 0) c.level) := hlk
          clear hn hst hlk
          go_wp2_with fail
          refine hst6.mono ?_
          rintro e w5 ⟨A5, k5, rfl, ho5, hb5⟩
          have hR5 := Lib.hid (show Reads w5 3 (.slice A5 n k5) n (c.steps.flatMap (fun s => [Value.int .i64 s.1, .int .i64 s.2.1, .int .i64 s.2.2])) from Reads.of_owns ho5)
          have h5 := Lib.hid (hch.out.keep (Keep.none hb5) (fun _ _ => id))
          have q5 := bmore hb hb5 hb.size
          clear hst6 ho5 hb5 hb hch
          obtain ⟨wp, rfl⟩ : ∃ wp : World, wp = wr := ⟨_, rfl⟩
          go_wp2_with fail
          go_loopw [13, 15, 188] (fun la _ i wr => ∃ (j : Nat) (m : Int), j ≤ n ∧ i = .int .i64 j ∧ la = .int .i64 m ∧ Hid (Linked m (c.steps.drop j) c.level) ∧ Below w5.heap.size w5 wr) (fun _ _ i _ => n - (intOf i).toNat)
          case atStart => exact ⟨0, -1, by omega, rfl, rfl, HLK, Below.refl _ _⟩
          case round =>
            clear HLK
            obtain ⟨j, m, hj, rfl, rfl, hlk, hb⟩ := hrel
            by_cases hlt2 : j < n
            · have hjl : j < c.steps.length := by rw [← HN2.out]; exact hlt2
              obtain ⟨g8, o8, c8, he8, hc8⟩ := (hR5.out.below hb).elem (fun _ => rfl) (by omega) (List.getElem?_eq_getElem hjl)
              cases he8
              have hl2 := hlk.out
              rw [List.drop_eq_getElem_cons hjl] at hl2
              obtain ⟨st, hst⟩ : ∃ st, st = c.steps[j] := ⟨_, rfl⟩
              rw [← hst] at hc8 hl2
              clear hst
              obtain ⟨f, x, y⟩ := st
              have s0 := hc8 0 _ rfl
              have s1 := hc8 1 _ rfl
              have s2 := hc8 2 _ rfl
              simp only [Nat.add_zero] at s0 s1 s2
              obtain ⟨l1, l2, l3⟩ := hl2
              have t2 : (x == m) = false := by rw [beq_eq_false_iff_ne, ← l1]; exact l2
              rw [l1] at s0
              have HL3 := Lib.hid l3
              clear l1 l2 l3 hc8 hlk
              go_wp2_with fail
              go_roundw
              case rel => exact ⟨j + 1, x, by omega, by go_num, rfl, HL3, hb.alloc hb.size _⟩
              case measure => simp [intOf]; omega
            · obtain rfl : j = n := by omega
              have hl2 := hlk.out
              rw [HN2.out, List.drop_length] at hl2
              have hlv := level_any b _ c wr (h5.out.keep (Keep.none hb) (fun _ _ => id))
              have e : c.level = m := hl2.symm
              rw [e] at hlv
              clear hl2 hlk e
              go_wp2_with fail
              refine hlv.mono ?_
              rintro e wr ⟨rfl, rfl⟩
              go_wp2_with fail
              refine (awake23 _).mono ?_
              rintro e w7 ⟨rfl, hb7⟩
              go_wp2
              go_ret
              have q6 := bmore q5 hb q5.size
              exact ⟨rfl, bmore hz (bmore q6 hb7 q6.size) hzs⟩
    · have HLI : Hid (∀ w, CaseOk w (.slice A ops.length k0) ops → Calls Try.prog 15 #[.agg #[.int .i64 first, .int .i64 longest, .int .i64 fresh, .slice A ops.length k0]] w fun e w' => e = .returned (.bool false) ∧ Below w.heap.size w w') := fun w hw => by
        have := light_any first longest fresh _ ops w hw
        rw [decide_eq_false hli] at this
        exact this
      clear hli hok
      go_enter Try.func6, Try.ntmps6
      go_wp2_with fail
      generalize w.alloc (.cells #[.int .i64 first, .int .i64 longest, .int .i64 fresh, .slice A ops.length k0] 39) = wz at *
      refine (HRT.out _).mono ?_
      rintro e w1 ⟨rfl, hb1⟩
      obtain ⟨z0, z1, z2, z3⟩ := blk4 (hZ.below hb1)
      go_wp2_with fail
      refine (HLI.out _ (hcz.below hb1)).mono ?_
      rintro e w2 ⟨rfl, hb2⟩
      have q2 := bmore hb1 hb2 hb1.size
      go_wp2_with fail
      refine (awake23 _).mono ?_
      rintro e w7 ⟨rfl, hb7⟩
      go_wp2
      go_ret
      exact ⟨rfl, bmore hz (bmore q2 hb7 q2.size) hzs⟩
  · have HRT := Lib.hid (fun w => right_no first longest fresh A ops.length k0 w hok)
    clear hok
    go_enter Try.func6, Try.ntmps6
    go_wp2_with fail
    generalize w.alloc (.cells #[.int .i64 first, .int .i64 longest, .int .i64 fresh, .slice A ops.length k0] 39) = wz at *
    refine (HRT.out _).mono ?_
    rintro e w1 ⟨rfl, hb1⟩
    go_wp2_with fail
    refine (awake23 _).mono ?_
    rintro e w7 ⟨rfl, hb7⟩
    go_wp2
    go_ret
    exact ⟨rfl, bmore hz (bmore hb1 hb7 hb1.size) hzs⟩
end Go.Proofs.Ytmiholjmagobhaa
