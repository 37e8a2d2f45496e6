/- pipe: the law's step, where Put takes in. -/
import Derived.Test.YtijmmmgmpfhgoaaPipeStep
namespace Go.Proofs.Ytijmmmgmpfhgoaa
open Go.RowKit Go.Shelf
set_option linter.unusedVariables false
set_option linter.unusedSimpArgs false

theorem nk9 {w0 w7 w8 w9 : World} {v : Value} (h : Keep (fun _ => False) w0 w7) (h8 : Keep (fun _ => False) w7 w8) (hk : Keep (fun q => v.ownBlock = some q) w8 w9) (hv : ∀ g, v.ownBlock = some g → w0.heap.size ≤ g) : Keep (fun _ => False) w0 w9 :=
  (h.trans h8 (fun _ _ x => x)).trans hk (fun q hq e => by have := hv q e; omega)
theorem newAt1 (w : World) (c : Array Value) (T' : TypeId) (o : Obj) : ((w.alloc (.cells c T')).alloc o).heap[w.heap.size + 1]? = some o := by
  have h := heap_alloc_new (w.alloc (.cells c T')) o
  have hz : (w.alloc (.cells c T')).heap.size = w.heap.size + 1 := by simp
  rwa [hz] at h
theorem newAt0 (w : World) (c : Array Value) (T' : TypeId) (o : Obj) : ((w.alloc (.cells c T')).alloc o).heap[w.heap.size]? = some (.cells c T') := (Below.heap_alloc _ _ _ (by simp)).trans (heap_alloc_new w _)
theorem madeB (w : World) (c : Array Value) (T' : TypeId) (p : Nat) (hp : p = w.heap.size + 1) : ((w.alloc (.cells c T')).alloc (.cells #[] 56)).ownsRow w.heap.size 56 2 (.slice (some ⟨p, 0, none⟩) 0 0) 0 [] := by
  have hz : p = (w.alloc (.cells c T')).heap.size := by rw [hp]; simp
  rw [hz]
  exact ⟨rfl, .inr ⟨_, 0, #[], rfl, by simp, heap_alloc_new _ _, Nat.le_refl _, Nat.zero_le _, rfl, rfl⟩⟩
theorem step1_fin {R : Nat → Prop} {w w1 w9 w10 : World} {G : Nat → Prop} {b : Nat} {v : Value} {l : List Msg} {room at' : Int} {xv : Value} {X : List RM} {tn : Nat} {bs : List Int} {A9 : Option Addr} {c9 : Nat}
    (h : SIn R w1 G b v l room xv X) (hb : Below w.heap.size w w1) (hk : Keep (fun _ => False) w1.drew w9) (ho : w9.ownsRow w1.drew.heap.size 56 2 (.slice A9 (X.length + 1) c9) (X.length + 1) ((X ++ [(⟨at', strOfNums bs⟩ : RM)]).flatMap rmCells))
    (r : PutR R w9 w10 G b l room at' tn bs) (he : putE l room at' tn = 0) : StP R w w10 G b room (.slice A9 (X.length + 1) c9) (X ++ [⟨at', strOfNums bs⟩]) := by
  obtain ⟨⟨v', l', h1, h2⟩, hkp⟩ := r
  have hs : w1.heap.size ≤ w9.heap.size := hk.size
  have hk1 : Keep (fun _ => False) w1 w9 := ⟨hk.os, hk.tape, hk.output, hk.size, hk.block⟩
  have hk2 : Keep G w w10 := ((Keep.ofBelowAll hb : Keep G w w1).trans hk1 (fun _ _ h => h.elim)).trans hkp (fun _ _ h => h)
  have hlt := ho.lt
  have hlr : (l.length : Int) < room := by
    unfold putE at he
    split at he
    · cases he
    · split at he
      · cases he
      · omega
  rcases h2 with ⟨h2, -⟩ | ⟨-, m, rfl, h3, h4⟩
  · exact absurd he h2
  · refine ⟨⟨fun q => (G q ∨ w9.heap.size ≤ q) ∧ q < w10.heap.size, v', _, h1.mono (fun q hq hl => ⟨hq, hl⟩), fun q hq => ⟨hq.1.imp id (fun x => by have := hb.size; omega), hq.2⟩, fun g hg hq => ?_, ?_, ?_⟩, ?_, hk2⟩
    · have h5 := hlt g hg
      have h6 : w1.heap.size ≤ g := h5.1
      rcases hq.1 with x | x
      · have := h.lt g x; omega
      · omega
    · have h5 := put_sorted (m := m) h.rel
      rw [h3] at h5
      rw [h5]
      unfold toR
      rw [h3, h4]
    · have h5 : (put1 l (dueN l at') m).length = l.length + 1 := by unfold put1; have := dueN_le l at'; simp; omega
      rw [h5]; omega
    · have h5 : (X ++ [(⟨at', strOfNums bs⟩ : RM)]).length = X.length + 1 := by simp
      show World.ownsRow ..
      rw [h5]
      exact ownsRow_base (ownsRow_keep ho hkp (fun g hg e => by have h6 := (hlt g hg).1; have h7 : w1.heap.size ≤ g := h6; have := h.lt g e; omega)) (Nat.zero_le _)
set_option maxRecDepth 100000 in
set_option maxHeartbeats 8000000 in
theorem step_1y {R : Nat → Prop} {G : Nat → Prop} (b : Nat) (v : Value) (l : List Msg) (room at' N : Int) (xv : Value) (X : List RM) (tA : Option Addr) (tn tc : Nat) (bs : List Int) (w : World) (h : SIn R w G b v l room xv X) (hx : Reads w 1 (.slice tA tn tc) tn (u8s bs)) (hbs : bs.length = tn) (he : putE l room at' tn = 0) :
    Calls Try.prog 13 #[.pointer (some ⟨b, 0, none⟩), xv, .int .i64 room, .agg #[.int .i64 1, .int .i64 at', .int .i64 N, .slice tA tn tc]] w fun e w' => ∃ xv' X', e = .returned (.tuple #[xv', .bool true]) ∧ StP R w w' G b room xv' X' := by
  obtain ⟨i0, hi0, hz0, hz1, hz2⟩ := info_parts info_rm
  have HI0 := Lib.hid hi0
  have HZ0 := Lib.hid hz0
  have HZ1 := Lib.hid hz1
  have HZ2 := Lib.hid hz2
  have hb0 : Below w.heap.size w (w.alloc (.cells #[.int .i64 1, .int .i64 at', .int .i64 N, .slice tA tn tc] 35)) := (Below.refl _ w).alloc (Nat.le_refl _) _
  have HB01 := Lib.hid hb0
  have HS1 := Lib.hid (h.below hb0)
  have hxl := h.xlen
  obtain ⟨xA, xk, rfl⟩ := ownsRow_slice h.row
  have HB7 : Hid (Blk (w.alloc (.cells #[.int .i64 1, .int .i64 at', .int .i64 N, .slice tA tn tc] 35)).drew w.heap.size #[.int .i64 1, .int .i64 at', .int .i64 N, .slice tA tn tc] 35) := Blk.new w _ _
  have HTX := Lib.hid (hx.below hb0)
  have HBL := Lib.hid hbs
  have HPE := Lib.hid he
  have hpe : ¬ at' < 0 ∧ ¬ 2199023255552 < at' ∧ ¬ 320 < tn ∧ ¬ room ≤ (l.length : Int) := by
    unfold putE at he
    split at he
    · cases he
    · split at he
      · cases he
      · rename_i g1 g2
        exact ⟨fun x => g1 (.inl x), fun x => g1 (.inr (.inl x)), fun x => g1 (.inr (.inr x)), g2⟩
  obtain ⟨g1, g2, g3, g4⟩ := hpe
  have g5 : ¬ room ≤ (X.length : Int) := by rw [hxl]; exact g4
  have hX := h.len
  have hrr := h.room
  have hXL : X.length ≤ 1000 := by omega
  have HLL : Hid (l.length ≤ 1000) := by show _ ≤ _; omega
  have HRR : Hid (0 ≤ room ∧ room ≤ 1000) := ⟨by omega, by omega⟩
  have hxl0 : w.heap.size < (w.alloc (.cells #[.int .i64 1, .int .i64 at', .int .i64 N, .slice tA tn tc] 35)).heap.size := by simp
  have HXL0 := Lib.hid hxl0
  obtain ⟨y0, y1, y2, y3⟩ := blk4' HB7.out
  clear h hb0 hxl hx hbs he g4 hX hrr hi0 hz0 hz1 hz2 hxl0
  go_enter Try.func13, Try.ntmps13
  go_wp2_with fail
  generalize w.alloc (.cells #[.int .i64 1, .int .i64 at', .int .i64 N, .slice tA tn tc] 35) = w1 at *
  have HL4 : Hid (∀ W', Keep (fun _ => False) w1.drew W' → W'.cell? ⟨w.heap.size, 1, none⟩ = some (.int .i64 at')) := fun W' hk => (blk4' (HB7.out.keep hk id)).2.1
  have HL6 : Hid (∀ W', Keep (fun _ => False) w1.drew W' → W'.cell? ⟨w.heap.size, 3, none⟩ = some (.slice tA tn tc)) := fun W' hk => (blk4' (HB7.out.keep hk id)).2.2.2
  have HTR : Hid (∀ W', Keep (fun _ => False) w1.drew W' → Reads W' 1 (.slice tA tn tc) tn (u8s bs)) := fun W' hk => (HTX.out.drewN 1).keep hk (fun _ _ _ => id)
  have HCV : Hid (∀ W', Keep (fun _ => False) w1.drew W' → (convert 28 9 (.slice tA tn tc)).run Try.prog W' = .ok (.string (strOfNums bs)) W') := fun W' hk => conv_ints (HTR.out W' hk)
  have HXR : Hid (∀ W', Keep (fun _ => False) w1.drew W' → Reads W' 2 (.slice xA X.length xk) X.length (X.flatMap rmCells)) := fun W' hk => (HS1.out.row.rat.drewN 1).keep hk (fun _ _ _ => id)
  clear y0 y1 y2 y3
  refine wp_region_noPanic ?_
  refine wp_region_held_drew (S := fun W' => Keep (fun _ => False) w1.drew W') (by kernel_rfl) (Keep.refl _ _) (fun hHeld => ?_)
  refine wpAnyH_take (i := 1) (oi := { dst := some 16, op := Op.move (Operand.tmp 1), type := 33, pos := "law.go:61", after := #[], guard := none }) (v := ?_) rfl (by kernel_rfl) (by kernel_rfl) (by kernel_rfl) (fun _ _ _ h => h) (Or.inl ⟨by rfl, ?_⟩) hHeld ?_
  rotate_left 1
  · intro wS hSw; clear hSw; go_simp <;> with_reducible rfl
  (try simp only [Act.put, List.setIfInBounds_toArray, List.set_cons_zero, List.set_cons_succ])
  refine wpAnyH_take (i := 3) (oi := { dst := some 18, op := Op.fieldAddr 35 (Operand.tmp 7) 1, type := 0, pos := "law.go:61", after := #[], guard := none }) (v := ?_) rfl (by kernel_rfl) (by kernel_rfl) (by kernel_rfl) (fun _ _ _ h => h) (Or.inl ⟨by rfl, ?_⟩) hHeld ?_
  rotate_left 1
  · intro wS hSw; clear hSw; go_simp <;> with_reducible rfl
  (try simp only [Act.put, List.setIfInBounds_toArray, List.set_cons_zero, List.set_cons_succ])
  refine wpAnyH_take (i := 4) (oi := { dst := some 19, op := Op.load 3 (Operand.tmp 18), type := 3, pos := "law.go:61", after := #[{ on := 3, ground := Ground.data }], guard := none }) (v := ?_) rfl (by kernel_rfl) (by kernel_rfl) (by kernel_rfl) (fun _ _ _ h => h) (Or.inl ⟨by rfl, ?_⟩) hHeld ?_
  rotate_left 1
  · intro wS hSw; have q := HL4.out wS hSw; clear hSw; go_simp <;> with_reducible rfl
  (try simp only [Act.put, List.setIfInBounds_toArray, List.set_cons_zero, List.set_cons_succ])
  refine wpAnyH_take (i := 5) (oi := { dst := some 20, op := Op.fieldAddr 35 (Operand.tmp 7) 3, type := 0, pos := "law.go:61", after := #[], guard := none }) (v := ?_) rfl (by kernel_rfl) (by kernel_rfl) (by kernel_rfl) (fun _ _ _ h => h) (Or.inl ⟨by rfl, ?_⟩) hHeld ?_
  rotate_left 1
  · intro wS hSw; clear hSw; go_simp <;> with_reducible rfl
  (try simp only [Act.put, List.setIfInBounds_toArray, List.set_cons_zero, List.set_cons_succ])
  refine wpAnyH_take (i := 6) (oi := { dst := some 21, op := Op.load 28 (Operand.tmp 20), type := 28, pos := "law.go:61", after := #[{ on := 5, ground := Ground.data }], guard := none }) (v := ?_) rfl (by kernel_rfl) (by kernel_rfl) (by kernel_rfl) (fun _ _ _ h => h) (Or.inl ⟨by rfl, ?_⟩) hHeld ?_
  rotate_left 1
  · intro wS hSw; have q := HL6.out wS hSw; clear hSw; go_simp <;> with_reducible rfl
  (try simp only [Act.put, List.setIfInBounds_toArray, List.set_cons_zero, List.set_cons_succ])
  refine wpAnyH_take (i := 7) (oi := { dst := some 22, op := Op.convert 28 9 (Operand.tmp 21), type := 9, pos := "law.go:61", after := #[{ on := 6, ground := Ground.data }], guard := none }) (v := ?_) rfl (by kernel_rfl) (by kernel_rfl) (by kernel_rfl) (fun _ _ _ h => h) (Or.inl ⟨by rfl, ?_⟩) hHeld ?_
  rotate_left 1
  · intro wS hSw; have q := HCV.out wS hSw; clear hSw; go_simp <;> with_reducible rfl
  (try simp only [Act.put, List.setIfInBounds_toArray, List.set_cons_zero, List.set_cons_succ])
  refine wpAnyH_take (i := 8) (oi := { dst := some 23, op := Op.build 56 #[(0, Operand.tmp 19), (1, Operand.tmp 22)], type := 56, pos := "law.go:61", after := #[{ on := 4, ground := Ground.data }, { on := 7, ground := Ground.data }], guard := none }) (v := ?_) rfl (by kernel_rfl) (by kernel_rfl) (by kernel_rfl) (fun _ _ _ h => h) (Or.inl ⟨by rfl, ?_⟩) hHeld ?_
  rotate_left 1
  · intro wS hSw; clear hSw; go_simp <;> with_reducible rfl
  (try simp only [Act.put, List.setIfInBounds_toArray, List.set_cons_zero, List.set_cons_succ])
  refine wpAnyH_ready (rs := [0, 9]) (by kernel_rfl) (by simp) ?_
  refine (AllReadyH.cons rfl (fun K hK => ?_) (AllReadyH.cons rfl (fun K hK => ?_) AllReadyH.nil))
  · go_simp
    go_wp2_with fail
    refine hK.out _ _ ((Keep.refl _ w1.drew).alloc _) (fun hHeld => ?_)
    clear hK K
    (try simp only [Act.put, List.setIfInBounds_toArray, List.set_cons_zero, List.set_cons_succ])
    refine wpAnyH_ready (rs := [2, 9]) (by kernel_rfl) (by simp) ?_
    refine (AllReadyH.cons rfl (fun K hK => ?_) (AllReadyH.cons rfl (fun K hK => ?_) AllReadyH.nil))
    · refine step_appR rfl _ _ 33 rfl w1.drew.heap.size 56 i0 (.agg #[.int .i64 0, .string ByteArray.empty]) 2 24 Try.underlying33 HI0.out HZ0.out HZ1.out HZ2.out rfl _ 0 [] rfl (World.ownsRow_made _ #[] 0 (Nat.le_refl _) (Nat.zero_le _) rfl) _ X.length _ rfl (HXR.out _ ((Keep.refl _ w1.drew).alloc _)) (rm_one X) (by unfold maxLen; omega) (by omega) (by first | (simp; done) | (simp; omega)) ?_
      rintro A7 c7 w7 hown7 hk7 - -
      change Keep (fun k => some _ = some k) _ w7 at hk7
      rw [Nat.zero_add, List.nil_append] at hown7
      rw [Nat.zero_add]
      have HO7 := Lib.hid hown7
      have HK7 := Lib.hid hk7
      have HN7 : Hid (Keep (fun _ => False) w1.drew w7) := Keep.trans (S' := fun q => w1.drew.heap.size ≤ q) ((Keep.refl _ w1.drew).alloc _) (hk7.mono (fun q _ e => by cases e; first | (simp; done) | (simp; omega))) (fun q h1 h2 => by omega)
      clear hown7 hk7
      refine hK.out _ _ HN7.out (fun hHeld => ?_)
      clear hK K
      (try simp only [Act.put, List.setIfInBounds_toArray, List.set_cons_zero, List.set_cons_succ])
      refine wpAnyH_ready (rs := [9]) (by kernel_rfl) (by simp) ?_
      refine (AllReadyH.cons rfl (fun K hK => ?_) AllReadyH.nil)
      · go_simp
        go_wp2_with fail
        refine hK.out _ _ (HN7.out.alloc _) (fun hHeld => ?_)
        clear hK K
        (try simp only [Act.put, List.setIfInBounds_toArray, List.set_cons_zero, List.set_cons_succ])
        refine wpAnyH_ready (rs := [10]) (by kernel_rfl) (by simp) ?_
        refine (AllReadyH.cons rfl (fun K hK => ?_) AllReadyH.nil)
        · refine step_app1 rfl _ _ 33 rfl w1.drew.heap.size 56 i0 (.agg #[.int .i64 0, .string ByteArray.empty]) 2 24 Try.underlying33 HI0.out HZ0.out HZ1.out HZ2.out rfl (.slice A7 X.length c7) X.length (X.flatMap rmCells) rfl (HO7.out.alloc _) w7.heap.size #[.int .i64 at', .string (strOfNums bs)] (0, 0) 1 rfl (heap_alloc_new w7 _) rfl (by intro u hu; simp at hu; rcases hu with rfl | rfl <;> rfl) (by omega) (by omega) (by have := HN7.out.size; simp at this ⊢; omega) ?_
          rintro A9 c9 w9 hown9 hk9 -
          have HO9 := Lib.hid hown9
          have HN9 : Hid (Keep (fun _ => False) w1.drew w9) := nk9 HN7.out ((Keep.refl _ w7).alloc _) hk9 (fun g hg => (HO7.out.lt g hg).1)
          clear hown9 hk9
          refine hK.out _ _ HN9.out (fun hHeld => ?_)
          clear hK K
          (try simp only [Act.put, List.setIfInBounds_toArray, List.set_cons_zero, List.set_cons_succ])
          refine wpAnyH_ready (rs := [11]) (by kernel_rfl) (by simp) ?_
          refine AllReadyH.cons rfl (fun K hK => ?_) AllReadyH.nil
          go_simp
          go_wp2_with fail
          refine hK.out _ _ HN9.out (fun hHeld => ?_)
          clear hK K
          (try simp only [Act.put, List.setIfInBounds_toArray, List.set_cons_zero, List.set_cons_succ])
          refine wpAnyH_done (by kernel_rfl) ?_ _
          refine NoPanic.normal ?_
          have HO10 : Hid (w9.ownsRow w1.drew.heap.size 56 2 (.slice A9 (X.length + 1) c9) (X.length + 1) ((X ++ [(⟨at', strOfNums bs⟩ : RM)]).flatMap rmCells)) := by
            have h := HO9.out
            rw [List.flatMap_append]
            exact h
          have HS9 := Lib.hid ((HS1.out.at_.below (below_drewN (Below.refl _ w1) 1) : PAt R w1.drew G b v l room).keep HN9.out (fun _ _ => id))
          have HPU := Lib.hid (put_any b v l room at' tA tn tc bs w9 HS9.out (by have := HLL.out; omega) HRR.out (HTR.out w9 HN9.out) HBL.out)
          obtain ⟨y0, y1, y2, y3⟩ := blk4' (HB7.out.keep HN9.out id)
          rw [HPE.out] at HPU
          clear HO9
          go_wp2_with fail
          refine HPU.out.mono ?_
          rintro e w10 ⟨rfl, r10⟩
          have HR10 := Lib.hid r10
          clear r10
          go_wp2
          exact bodyPost_ret (v := .tuple #[.slice A9 (X.length + 1) c9, .bool true]) (by simp [results, Try.results13, go_sem]) rfl ⟨.slice A9 (X.length + 1) c9, X ++ [⟨at', strOfNums bs⟩], rfl, step1_fin HS1.out HB01.out HN9.out HO10.out HR10.out HPE.out⟩
    · go_simp
      go_wp2_with fail
      refine hK.out _ _ (((Keep.refl _ w1.drew).alloc _).alloc _) (fun hHeld => ?_)
      clear hK K
      (try simp only [Act.put, List.setIfInBounds_toArray, List.set_cons_zero, List.set_cons_succ])
      refine wpAnyH_ready (rs := [2]) (by kernel_rfl) (by simp) ?_
      refine (AllReadyH.cons rfl (fun K hK => ?_) AllReadyH.nil)
      · refine step_appR rfl _ _ 33 rfl w1.drew.heap.size 56 i0 (.agg #[.int .i64 0, .string ByteArray.empty]) 2 24 Try.underlying33 HI0.out HZ0.out HZ1.out HZ2.out rfl _ 0 [] rfl ((World.ownsRow_made _ #[] 0 (Nat.le_refl _) (Nat.zero_le _) rfl).alloc _) _ X.length _ rfl (HXR.out _ (((Keep.refl _ w1.drew).alloc _).alloc _)) (rm_one X) (by unfold maxLen; omega) (by omega) (by first | (simp; done) | (simp; omega)) ?_
        rintro A7 c7 w7 hown7 hk7 - -
        change Keep (fun k => some _ = some k) _ w7 at hk7
        rw [Nat.zero_add, List.nil_append] at hown7
        rw [Nat.zero_add]
        have HO7 := Lib.hid hown7
        have HK7 := Lib.hid hk7
        have HN7 : Hid (Keep (fun _ => False) w1.drew w7) := Keep.trans (S' := fun q => w1.drew.heap.size ≤ q) (((Keep.refl _ w1.drew).alloc _).alloc _) (hk7.mono (fun q _ e => by cases e; first | (simp; done) | (simp; omega))) (fun q h1 h2 => by omega)
        clear hown7 hk7
        refine hK.out _ _ HN7.out (fun hHeld => ?_)
        clear hK K
        (try simp only [Act.put, List.setIfInBounds_toArray, List.set_cons_zero, List.set_cons_succ])
        refine wpAnyH_ready (rs := [10]) (by kernel_rfl) (by simp) ?_
        refine (AllReadyH.cons rfl (fun K hK => ?_) AllReadyH.nil)
        · refine step_app1 rfl _ _ 33 rfl w1.drew.heap.size 56 i0 (.agg #[.int .i64 0, .string ByteArray.empty]) 2 24 Try.underlying33 HI0.out HZ0.out HZ1.out HZ2.out rfl (.slice A7 X.length c7) X.length (X.flatMap rmCells) rfl HO7.out (w1.heap.size + 1) #[.int .i64 at', .string (strOfNums bs)] (0, 0) 1 rfl ((HK7.out.block (w1.heap.size + 1) (by simp) (by simp)).trans (newAt1 w1 _ _ _)) rfl (by intro u hu; simp at hu; rcases hu with rfl | rfl <;> rfl) (by omega) (by omega) (by have := HN7.out.size; exact this) ?_
          rintro A9 c9 w9 hown9 hk9 -
          have HO9 := Lib.hid hown9
          have HN9 : Hid (Keep (fun _ => False) w1.drew w9) := nk9 HN7.out (Keep.refl _ w7) hk9 (fun g hg => (HO7.out.lt g hg).1)
          clear hown9 hk9
          refine hK.out _ _ HN9.out (fun hHeld => ?_)
          clear hK K
          (try simp only [Act.put, List.setIfInBounds_toArray, List.set_cons_zero, List.set_cons_succ])
          refine wpAnyH_ready (rs := [11]) (by kernel_rfl) (by simp) ?_
          refine AllReadyH.cons rfl (fun K hK => ?_) AllReadyH.nil
          go_simp
          go_wp2_with fail
          refine hK.out _ _ HN9.out (fun hHeld => ?_)
          clear hK K
          (try simp only [Act.put, List.setIfInBounds_toArray, List.set_cons_zero, List.set_cons_succ])
          refine wpAnyH_done (by kernel_rfl) ?_ _
          refine NoPanic.normal ?_
          have HO10 : Hid (w9.ownsRow w1.drew.heap.size 56 2 (.slice A9 (X.length + 1) c9) (X.length + 1) ((X ++ [(⟨at', strOfNums bs⟩ : RM)]).flatMap rmCells)) := by
            have h := HO9.out
            rw [List.flatMap_append]
            exact h
          have HS9 := Lib.hid ((HS1.out.at_.below (below_drewN (Below.refl _ w1) 1) : PAt R w1.drew G b v l room).keep HN9.out (fun _ _ => id))
          have HPU := Lib.hid (put_any b v l room at' tA tn tc bs w9 HS9.out (by have := HLL.out; omega) HRR.out (HTR.out w9 HN9.out) HBL.out)
          obtain ⟨y0, y1, y2, y3⟩ := blk4' (HB7.out.keep HN9.out id)
          rw [HPE.out] at HPU
          clear HO9
          go_wp2_with fail
          refine HPU.out.mono ?_
          rintro e w10 ⟨rfl, r10⟩
          have HR10 := Lib.hid r10
          clear r10
          go_wp2
          exact bodyPost_ret (v := .tuple #[.slice A9 (X.length + 1) c9, .bool true]) (by simp [results, Try.results13, go_sem]) rfl ⟨.slice A9 (X.length + 1) c9, X ++ [⟨at', strOfNums bs⟩], rfl, step1_fin HS1.out HB01.out HN9.out HO10.out HR10.out HPE.out⟩
  · go_simp
    go_wp2_with fail
    refine hK.out _ _ ((Keep.refl _ w1.drew).alloc _) (fun hHeld => ?_)
    clear hK K
    (try simp only [Act.put, List.setIfInBounds_toArray, List.set_cons_zero, List.set_cons_succ])
    refine wpAnyH_ready (rs := [0]) (by kernel_rfl) (by simp) ?_
    refine (AllReadyH.cons rfl (fun K hK => ?_) AllReadyH.nil)
    · go_simp
      go_wp2_with fail
      refine hK.out _ _ (((Keep.refl _ w1.drew).alloc _).alloc _) (fun hHeld => ?_)
      clear hK K
      (try simp only [Act.put, List.setIfInBounds_toArray, List.set_cons_zero, List.set_cons_succ])
      refine wpAnyH_ready (rs := [2]) (by kernel_rfl) (by simp) ?_
      refine (AllReadyH.cons rfl (fun K hK => ?_) AllReadyH.nil)
      · refine step_appR rfl _ _ 33 rfl w1.drew.heap.size 56 i0 (.agg #[.int .i64 0, .string ByteArray.empty]) 2 24 Try.underlying33 HI0.out HZ0.out HZ1.out HZ2.out rfl _ 0 [] rfl (madeB w1.drew _ _ _ (by simp)) _ X.length _ rfl (HXR.out _ (((Keep.refl _ w1.drew).alloc _).alloc _)) (rm_one X) (by unfold maxLen; omega) (by omega) (by first | (simp; done) | (simp; omega)) ?_
        rintro A7 c7 w7 hown7 hk7 - -
        change Keep (fun k => some _ = some k) _ w7 at hk7
        rw [Nat.zero_add, List.nil_append] at hown7
        rw [Nat.zero_add]
        have HO7 := Lib.hid hown7
        have HK7 := Lib.hid hk7
        have HN7 : Hid (Keep (fun _ => False) w1.drew w7) := Keep.trans (S' := fun q => w1.drew.heap.size ≤ q) (((Keep.refl _ w1.drew).alloc _).alloc _) (hk7.mono (fun q _ e => by cases e; first | (simp; done) | (simp; omega))) (fun q h1 h2 => by omega)
        clear hown7 hk7
        refine hK.out _ _ HN7.out (fun hHeld => ?_)
        clear hK K
        (try simp only [Act.put, List.setIfInBounds_toArray, List.set_cons_zero, List.set_cons_succ])
        refine wpAnyH_ready (rs := [10]) (by kernel_rfl) (by simp) ?_
        refine (AllReadyH.cons rfl (fun K hK => ?_) AllReadyH.nil)
        · refine step_app1 rfl _ _ 33 rfl w1.drew.heap.size 56 i0 (.agg #[.int .i64 0, .string ByteArray.empty]) 2 24 Try.underlying33 HI0.out HZ0.out HZ1.out HZ2.out rfl (.slice A7 X.length c7) X.length (X.flatMap rmCells) rfl HO7.out w1.heap.size #[.int .i64 at', .string (strOfNums bs)] (0, 0) 1 rfl ((HK7.out.block w1.heap.size (by simp; omega) (by simp)).trans (newAt0 w1 _ _ _)) rfl (by intro u hu; simp at hu; rcases hu with rfl | rfl <;> rfl) (by omega) (by omega) (by have := HN7.out.size; exact this) ?_
          rintro A9 c9 w9 hown9 hk9 -
          have HO9 := Lib.hid hown9
          have HN9 : Hid (Keep (fun _ => False) w1.drew w9) := nk9 HN7.out (Keep.refl _ w7) hk9 (fun g hg => (HO7.out.lt g hg).1)
          clear hown9 hk9
          refine hK.out _ _ HN9.out (fun hHeld => ?_)
          clear hK K
          (try simp only [Act.put, List.setIfInBounds_toArray, List.set_cons_zero, List.set_cons_succ])
          refine wpAnyH_ready (rs := [11]) (by kernel_rfl) (by simp) ?_
          refine AllReadyH.cons rfl (fun K hK => ?_) AllReadyH.nil
          go_simp
          go_wp2_with fail
          refine hK.out _ _ HN9.out (fun hHeld => ?_)
          clear hK K
          (try simp only [Act.put, List.setIfInBounds_toArray, List.set_cons_zero, List.set_cons_succ])
          refine wpAnyH_done (by kernel_rfl) ?_ _
          refine NoPanic.normal ?_
          have HO10 : Hid (w9.ownsRow w1.drew.heap.size 56 2 (.slice A9 (X.length + 1) c9) (X.length + 1) ((X ++ [(⟨at', strOfNums bs⟩ : RM)]).flatMap rmCells)) := by
            have h := HO9.out
            rw [List.flatMap_append]
            exact h
          have HS9 := Lib.hid ((HS1.out.at_.below (below_drewN (Below.refl _ w1) 1) : PAt R w1.drew G b v l room).keep HN9.out (fun _ _ => id))
          have HPU := Lib.hid (put_any b v l room at' tA tn tc bs w9 HS9.out (by have := HLL.out; omega) HRR.out (HTR.out w9 HN9.out) HBL.out)
          obtain ⟨y0, y1, y2, y3⟩ := blk4' (HB7.out.keep HN9.out id)
          rw [HPE.out] at HPU
          clear HO9
          go_wp2_with fail
          refine HPU.out.mono ?_
          rintro e w10 ⟨rfl, r10⟩
          have HR10 := Lib.hid r10
          clear r10
          go_wp2
          exact bodyPost_ret (v := .tuple #[.slice A9 (X.length + 1) c9, .bool true]) (by simp [results, Try.results13, go_sem]) rfl ⟨.slice A9 (X.length + 1) c9, X ++ [⟨at', strOfNums bs⟩], rfl, step1_fin HS1.out HB01.out HN9.out HO10.out HR10.out HPE.out⟩
end Go.Proofs.Ytijmmmgmpfhgoaa
