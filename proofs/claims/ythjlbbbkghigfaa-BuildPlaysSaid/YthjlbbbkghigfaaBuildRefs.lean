/- build: the law's reference: New. -/
import Derived.Test.YthjlbbbkghigfaaBuildLog
import Derived.Test.YthjlbbbkghigfaaRgRef3
namespace Go.Proofs.Ythjlbbbkghigfaa
open Go.RowKit
set_option linter.unusedVariables false
set_option linter.unusedSimpArgs false

theorem rep_snoc (q : Nat) : (List.replicate (q + 1) (-1 : Int)).map (Value.int .i64) = (List.replicate q (-1 : Int)).map (Value.int .i64) ++ [.int .i64 (-1)] := by
  rw [List.replicate_succ', List.map_append]; rfl
/-- a store of a state into a box of zeros -/
theorem set_state {w : World} {b : Nat} (u0 u1 u2 u3 u4 : Value) (h : Blk w b #[.int .i64 0, .int .i64 0, .int .i64 0, .slice none 0 0, .bool false] 53) :
    Blk (((((w.setCell ⟨b, 0, none⟩ u0).setCell ⟨b, 1, none⟩ u1).setCell ⟨b, 2, none⟩ u2).setCell ⟨b, 3, none⟩ u3).setCell ⟨b, 4, none⟩ u4) b #[u0, u1, u2, u3, u4] 53 :=
  ((((h.set' (cs' := #[u0, .int .i64 0, .int .i64 0, .slice none 0 0, .bool false]) (by simp)).set' (cs' := #[u0, u1, .int .i64 0, .slice none 0 0, .bool false]) (by simp)).set' (cs' := #[u0, u1, u2, .slice none 0 0, .bool false]) (by simp)).set' (cs' := #[u0, u1, u2, u3, .bool false]) (by simp)).set' (by simp)
theorem keep_state {S : Nat → Prop} {w w' : World} {b : Nat} (u0 u1 u2 u3 u4 : Value) (h : Keep S w w') (hb : S b ∨ w.heap.size ≤ b) :
    Keep S w (((((w'.setCell ⟨b, 0, none⟩ u0).setCell ⟨b, 1, none⟩ u1).setCell ⟨b, 2, none⟩ u2).setCell ⟨b, 3, none⟩ u3).setCell ⟨b, 4, none⟩ u4) :=
  ((((h.setCell (p := ⟨b, 0, none⟩) hb _).setCell (p := ⟨b, 1, none⟩) hb _).setCell (p := ⟨b, 2, none⟩) hb _).setCell (p := ⟨b, 3, none⟩) hb _).setCell (p := ⟨b, 4, none⟩) hb _
theorem below_state {B : Nat} {w w' : World} {b : Nat} (u0 u1 u2 u3 u4 : Value) (h : Below B w w') (hb : B ≤ b) :
    Below B w (((((w'.setCell ⟨b, 0, none⟩ u0).setCell ⟨b, 1, none⟩ u1).setCell ⟨b, 2, none⟩ u2).setCell ⟨b, 3, none⟩ u3).setCell ⟨b, 4, none⟩ u4) :=
  ((((h.setCell (p := ⟨b, 0, none⟩) hb _).setCell (p := ⟨b, 1, none⟩) hb _).setCell (p := ⟨b, 2, none⟩) hb _).setCell (p := ⟨b, 3, none⟩) hb _).setCell (p := ⟨b, 4, none⟩) hb _
theorem boxes2 (w : World) (a b : Array Value) (T : TypeId) : ∃ wz, wz = (w.alloc (.cells a T)).alloc (.cells b T) ∧ Hid (Blk wz w.heap.size a T) ∧ Hid (Blk wz (w.heap.size + 1) b T) ∧ Hid (Below w.heap.size w wz) ∧ Hid (wz.heap.size = w.heap.size + 2) := by
  have hz : (w.alloc (.cells a T)).heap.size = w.heap.size + 1 := by simp
  have h1 := Blk.new w a T
  have h2 := Blk.new (w.alloc (.cells a T)) b T
  rw [hz] at h2
  have h3 : Below (w.alloc (.cells a T)).heap.size (w.alloc (.cells a T)) ((w.alloc (.cells a T)).alloc (.cells b T)) := (Below.refl _ _).alloc (Nat.le_refl _) _
  have h4 : Below w.heap.size w (w.alloc (.cells a T)) := (Below.refl _ w).alloc (Nat.le_refl _) _
  exact ⟨_, rfl, h1.below h3, h2, bmore h4 h3 h4.size, by show _ = _; simp⟩
set_option maxRecDepth 100000 in
set_option maxHeartbeats 2000000 in
theorem refnew_any (s k n : Nat) (w : World) (hs : s ≤ 16384) :
    Calls Try.prog 22 #[.int .i64 s, .int .i64 k, .int .i64 n] w fun e w' => ∃ A c, e = .returned (.agg #[.int .i64 s, .int .i64 k, .int .i64 n, .slice A s c, .bool false]) ∧ w'.ownsRow w.heap.size 3 1 (.slice A s c) s ((List.replicate s (-1 : Int)).map (Value.int .i64)) ∧ Below w.heap.size w w' := by
  obtain ⟨i0, hi, hz0, hz1, hz2⟩ := info_parts info_int
  have HI0 := Lib.hid hi
  have HZ0 := Lib.hid hz0
  have HZ1 := Lib.hid hz1
  have HZ2 := Lib.hid hz2
  obtain ⟨wz, hwz, HB6, HB7, HLZ, HZZ⟩ := boxes2 w #[.int .i64 0, .int .i64 0, .int .i64 0, .slice none 0 0, .bool false] #[.int .i64 s, .int .i64 k, .int .i64 n, .slice none 0 0, .bool false] 53
  have HWZ := Lib.hid hwz
  clear hwz hi hz0 hz1 hz2
  go_enter Try.func22, Try.ntmps22
  go_wp2_with fail
  rw [← HWZ.out]
  go_loopw [8] (fun i wr => ∃ (q : Nat) (A : Option Addr) (c : Nat), q ≤ s ∧ i = .int .i64 q ∧ Hid (Blk wr w.heap.size #[.int .i64 0, .int .i64 0, .int .i64 0, .slice none 0 0, .bool false] 53) ∧ Hid (Blk wr (w.heap.size + 1) #[.int .i64 s, .int .i64 k, .int .i64 n, .slice A q c, .bool false] 53) ∧ Hid (wr.ownsRow wz.heap.size 3 1 (.slice A q c) q ((List.replicate q (-1 : Int)).map (Value.int .i64))) ∧ Hid (Below w.heap.size w wr)) (fun i _ => s - (intOf i).toNat)
  case atStart => exact ⟨0, none, 0, by omega, rfl, HB6, HB7, ⟨by simp, .inl ⟨rfl, rfl⟩⟩, HLZ⟩
  case round =>
    obtain ⟨q, A, c, hq, rfl, HX6, HX7, HO, HB⟩ := hrel
    by_cases hlt : q < s
    · obtain ⟨y0, y1, y2, y3, y4⟩ := blk5 HX7.out
      have hs0 : wz.heap.size ≤ wr.heap.size := by have := HX7.out.lt; have := HZZ.out; omega
      go_wp2_with (at_builtin; refine wpList_app1 rfl _ _ 39 rfl wz.heap.size 3 i0 (.int .i64 0) 1 8 Try.underlying39 HI0.out HZ0.out HZ1.out HZ2.out rfl _ q _ rfl HO.out #[.int .i64 (-1)] 1 rfl rfl (by intro u hu; simp at hu; subst hu; rfl) (by omega) (by omega) hs0 ?_; rintro A2 c2 w2 hown2 hk2 hg2 -; have HO2 := Lib.hid hown2; have HX62 := Lib.hid (HX6.out.keep hk2 (fun e => by have := (own_lt HO.out e).1; have := HZZ.out; omega)); have HX72 := Lib.hid (HX7.out.keep hk2 (fun e => by have := (own_lt HO.out e).1; have := HZZ.out; omega)); have HB2 := Lib.hid (bkeep HB.out hk2 (Nat.le_refl _) (fun g e => by have := (own_lt HO.out e).1; have := HZZ.out; omega)); have y5 := HX72.out.frozen 3; clear hown2 hk2 hg2 y0 y1 y2 y3 y4; obtain ⟨y0, y1, y2, y3, y4⟩ := blk5 HX72.out)
      have HX63 : Hid (Blk (w2.setCell ⟨w.heap.size + 1, 3, none⟩ (.slice A2 (q + 1) c2)) w.heap.size #[.int .i64 0, .int .i64 0, .int .i64 0, .slice none 0 0, .bool false] 53) := HX62.out.setOther (by simp) _
      have HX73 : Hid (Blk (w2.setCell ⟨w.heap.size + 1, 3, none⟩ (.slice A2 (q + 1) c2)) (w.heap.size + 1) #[.int .i64 s, .int .i64 k, .int .i64 n, .slice A2 (q + 1) c2, .bool false] 53) := HX72.out.set' (by simp)
      have HO3 : Hid ((w2.setCell ⟨w.heap.size + 1, 3, none⟩ (.slice A2 (q + 1) c2)).ownsRow wz.heap.size 3 1 (.slice A2 (q + 1) c2) (q + 1) ((List.replicate (q + 1) (-1 : Int)).map (Value.int .i64))) := by
        show World.ownsRow ..
        rw [rep_snoc]
        exact ownsRow_keep HO2.out ((Keep.refl (fun g => g = w.heap.size + 1) w2).setCell (p := ⟨w.heap.size + 1, 3, none⟩) (.inl rfl) _) (fun g hg e => by have := (own_lt HO2.out hg).1; have := HZZ.out; omega)
      have HB3 : Hid (Below w.heap.size w (w2.setCell ⟨w.heap.size + 1, 3, none⟩ (.slice A2 (q + 1) c2))) := HB2.out.setCell (p := ⟨w.heap.size + 1, 3, none⟩) (Nat.le_succ _) _
      clear y0 y1 y2 y3 y4 y5
      go_wp2
      go_roundw
      case rel => exact ⟨q + 1, A2, c2, by omega, by go_num, HX63, HX73, HO3, HB3⟩
      case measure => simp [intOf]; omega
    · obtain rfl : q = s := by omega
      obtain ⟨y0, y1, y2, y3, y4⟩ := blk5 HX7.out
      obtain ⟨z0, z1, z2, z3, z4⟩ := blk5 HX6.out
      have f0 := HX6.out.frozen 0
      have f1 := HX6.out.frozen 1
      have f2 := HX6.out.frozen 2
      have f3 := HX6.out.frozen 3
      have f4 := HX6.out.frozen 4
      have hl6 := HX6.out.lt
      have hl7 := HX7.out.lt
      go_wp2
      obtain ⟨a0, a1, a2, a3, a4⟩ := blk5 (set_state (.int .i64 q) (.int .i64 k) (.int .i64 n) (.slice A q c) (.bool false) HX6.out)
      exact bodyPost_ret (v := .agg #[.int .i64 q, .int .i64 k, .int .i64 n, .slice A q c, .bool false]) (by simp [results, Try.f22, go_sem, hl6, a0, a1, a2, a3, a4]) rfl ⟨A, c, rfl, ownsRow_base (ownsRow_keep HO.out (keep_state (S := fun g => g = w.heap.size) _ _ _ _ _ (Keep.refl _ wr) (.inl rfl)) (fun g hg e => by have := (own_lt HO.out hg).1; have := HZZ.out; omega)) (by have := HZZ.out; omega), below_state _ _ _ _ _ HB.out (Nat.le_refl _)⟩

theorem boxes2' (w : World) (a b : Array Value) (T : TypeId) : Blk ((w.alloc (.cells a T)).alloc (.cells b T)) (w.heap.size + 1) b T ∧ Below w.heap.size w ((w.alloc (.cells a T)).alloc (.cells b T)) := by
  obtain ⟨wz, hz, -, h1, h2, -⟩ := boxes2 w a b T
  subst hz
  exact ⟨h1.out, h2.out⟩
set_option maxRecDepth 100000 in
set_option maxHeartbeats 2000000 in
theorem refput_over (s k n : Nat) (block tick : Int) (A : Option Addr) (c : Nat) (tv : Value) (w : World) :
    Calls Try.prog 38 #[.agg #[.int .i64 s, .int .i64 k, .int .i64 n, .slice A s c, .bool true], .int .i64 block, tv, .int .i64 tick] w fun e w' => e = .returned (.tuple #[.agg #[.int .i64 s, .int .i64 k, .int .i64 n, .slice A s c, .bool true], .int .i64 24]) ∧ Below w.heap.size w w' := by
  have HBX := Lib.hid (boxes2' w #[.int .i64 s, .int .i64 k, .int .i64 n, .slice A s c, .bool true] #[.int .i64 s, .int .i64 k, .int .i64 n, .slice A s c, .bool true] 53)
  go_enter Try.func38, Try.ntmps38
  go_wp2
  obtain ⟨a0, a1, a2, a3, a4⟩ := blk5 HBX.out.1
  exact bodyPost_ret (v := .tuple #[.agg #[.int .i64 s, .int .i64 k, .int .i64 n, .slice A s c, .bool true], .int .i64 24]) (by simp [results, Try.f38, go_sem, a0, a1, a2, a3, a4]) rfl ⟨rfl, HBX.out.2⟩
set_option maxRecDepth 100000 in
set_option maxHeartbeats 2000000 in
theorem refput_out (s k n : Nat) (block tick : Int) (A : Option Addr) (c : Nat) (tv : Value) (w : World) (hp : PlanOk s k n) (hE : ¬ (0 ≤ block ∧ block < nb s k) ∨ tick < 0 ∨ 1099511627776 < tick) :
    Calls Try.prog 38 #[.agg #[.int .i64 s, .int .i64 k, .int .i64 n, .slice A s c, .bool false], .int .i64 block, tv, .int .i64 tick] w fun e w' => e = .returned (.tuple #[.agg #[.int .i64 s, .int .i64 k, .int .i64 n, .slice A s c, .bool false], .int .i64 11]) ∧ Below w.heap.size w w' := by
  have HBX := Lib.hid (boxes2' w #[.int .i64 s, .int .i64 k, .int .i64 n, .slice A s c, .bool false] #[.int .i64 s, .int .i64 k, .int .i64 n, .slice A s c, .bool false] 53)
  have HRB := Lib.hid (fun w => refblocks_any s k w hp.1 hp.2.1 hp.2.2.1)
  generalize nb s k = z at *
  have hr : block < 0 ∨ (¬ block < 0 ∧ (z : Int) ≤ block) ∨ (¬ block < 0 ∧ ¬ (z : Int) ≤ block ∧ tick < 0) ∨ (¬ block < 0 ∧ ¬ (z : Int) ≤ block ∧ ¬ tick < 0 ∧ 1099511627776 < tick) := by omega
  clear hE hp
  rcases hr with h1 | ⟨h1, h2⟩ | ⟨h1, h2, h3⟩ | ⟨h1, h2, h3, h4⟩
  · go_enter Try.func38, Try.ntmps38
    go_wp2
    obtain ⟨a0, a1, a2, a3, a4⟩ := blk5 HBX.out.1
    exact bodyPost_ret (v := .tuple #[.agg #[.int .i64 s, .int .i64 k, .int .i64 n, .slice A s c, .bool false], .int .i64 11]) (by simp [results, Try.f38, go_sem, a0, a1, a2, a3, a4]) rfl ⟨rfl, HBX.out.2⟩
  all_goals
    go_enter Try.func38, Try.ntmps38
    go_wp2_with fail
    refine (HRB.out _).mono ?_
    rintro e w1 ⟨rfl, rfl⟩
    go_wp2
    obtain ⟨a0, a1, a2, a3, a4⟩ := blk5 HBX.out.1
    exact bodyPost_ret (v := .tuple #[.agg #[.int .i64 s, .int .i64 k, .int .i64 n, .slice A s c, .bool false], .int .i64 11]) (by simp [results, Try.f38, go_sem, a0, a1, a2, a3, a4]) rfl ⟨rfl, HBX.out.2⟩
set_option maxRecDepth 100000 in
set_option maxHeartbeats 2000000 in
theorem refput_len (s k n i m : Nat) (tick : Int) (A B : Option Addr) (c d : Nat) (w : World) (hp : PlanOk s k n) (hi : i < nb s k) (ht : 0 ≤ tick ∧ tick ≤ 1099511627776) (hm : (m : Int) ≠ min ((i * k + k : Nat) : Int) s - ((i * k : Nat) : Int)) :
    Calls Try.prog 38 #[.agg #[.int .i64 s, .int .i64 k, .int .i64 n, .slice A s c, .bool false], .int .i64 (i : Int), .slice B m d, .int .i64 tick] w fun e w' => e = .returned (.tuple #[.agg #[.int .i64 s, .int .i64 k, .int .i64 n, .slice A s c, .bool false], .int .i64 10]) ∧ Below w.heap.size w w' := by
  have HBX := Lib.hid (boxes2' w #[.int .i64 s, .int .i64 k, .int .i64 n, .slice A s c, .bool false] #[.int .i64 s, .int .i64 k, .int .i64 n, .slice A s c, .bool false] 53)
  have HRB := Lib.hid (fun w => refblocks_any s k w hp.1 hp.2.1 hp.2.2.1)
  have hs16 := hp.1
  have hk64 : k ≤ 64 := hp.2.2.1
  have hz := nb_le hp.1 hp.2.1
  have hy := (nb_lt hp.2.1).1 hi
  have hmul := mul_le' (i := i) (k := k) (by omega) hk64
  have w1 := wrap_m1 i k (by omega)
  clear hp
  generalize i * k = y at *
  generalize nb s k = z at *
  have h1 : ¬ (i : Int) < 0 := by omega
  have h2 : ¬ (z : Int) ≤ (i : Int) := by omega
  have h3 : ¬ tick < 0 := by omega
  have h4 : ¬ 1099511627776 < tick := by omega
  by_cases h5 : (s : Int) < (y : Int) + (k : Int)
  · have t1 : ((m : Int) == (s : Int) - (y : Int)) = false := by simp; omega
    have t2 : ((m : Int) != (s : Int) - (y : Int)) = true := by rw [bne, t1]; rfl
    clear hm ht hi
    go_enter Try.func38, Try.ntmps38
    go_wp2_with fail
    refine (HRB.out _).mono ?_
    rintro e w1 ⟨rfl, rfl⟩
    go_wp2
    obtain ⟨a0, a1, a2, a3, a4⟩ := blk5 HBX.out.1
    exact bodyPost_ret (v := .tuple #[.agg #[.int .i64 s, .int .i64 k, .int .i64 n, .slice A s c, .bool false], .int .i64 10]) (by simp [results, Try.f38, go_sem, a0, a1, a2, a3, a4]) rfl ⟨rfl, HBX.out.2⟩
  · have t1 : ((m : Int) == (y : Int) + (k : Int) - (y : Int)) = false := by simp; omega
    have t2 : ((m : Int) != (y : Int) + (k : Int) - (y : Int)) = true := by rw [bne, t1]; rfl
    have t3 : ((m : Int) == (k : Int)) = false := by simp; omega
    have t4 : ((m : Int) != (k : Int)) = true := by rw [bne, t3]; rfl
    clear hm ht hi
    go_enter Try.func38, Try.ntmps38
    go_wp2_with fail
    refine (HRB.out _).mono ?_
    rintro e w1 ⟨rfl, rfl⟩
    go_wp2
    obtain ⟨a0, a1, a2, a3, a4⟩ := blk5 HBX.out.1
    exact bodyPost_ret (v := .tuple #[.agg #[.int .i64 s, .int .i64 k, .int .i64 n, .slice A s c, .bool false], .int .i64 10]) (by simp [results, Try.f38, go_sem, a0, a1, a2, a3, a4]) rfl ⟨rfl, HBX.out.2⟩
set_option maxRecDepth 100000 in
set_option maxHeartbeats 2000000 in
theorem refput_twice (s k n i m : Nat) (tick u : Int) (l : List Int) (A B : Option Addr) (c d : Nat) (w : World) (hp : PlanOk s k n) (hi : i < nb s k) (ht : 0 ≤ tick ∧ tick ≤ 1099511627776) (hm : (m : Int) = min ((i * k + k : Nat) : Int) s - ((i * k : Nat) : Int)) (hr : Reads w 1 (.slice A s c) s (l.map (Value.int .i64))) (hu : l[i * k]? = some u) (hu0 : 0 ≤ u) :
    Calls Try.prog 38 #[.agg #[.int .i64 s, .int .i64 k, .int .i64 n, .slice A s c, .bool false], .int .i64 (i : Int), .slice B m d, .int .i64 tick] w fun e w' => e = .returned (.tuple #[.agg #[.int .i64 s, .int .i64 k, .int .i64 n, .slice A s c, .bool false], .int .i64 13]) ∧ Below w.heap.size w w' := by
  have HBX := Lib.hid (boxes2' w #[.int .i64 s, .int .i64 k, .int .i64 n, .slice A s c, .bool false] #[.int .i64 s, .int .i64 k, .int .i64 n, .slice A s c, .bool false] 53)
  have HRB := Lib.hid (fun w => refblocks_any s k w hp.1 hp.2.1 hp.2.2.1)
  have hs16 := hp.1
  have hk64 : k ≤ 64 := hp.2.2.1
  have hz := nb_le hp.1 hp.2.1
  have hy := (nb_lt hp.2.1).1 hi
  have hmul := mul_le' (i := i) (k := k) (by omega) hk64
  have w1 := wrap_m1 i k (by omega)
  obtain ⟨g, p, c', he, y0⟩ := hr.at (i * k) _ (by rw [List.getElem?_map, hu]; rfl)
  cases he
  have hg := World.block_lt_of_cell? _ _ y0
  clear hp hr hu
  generalize i * k = y at *
  generalize nb s k = z at *
  have h1 : ¬ (i : Int) < 0 := by omega
  have h2 : ¬ (z : Int) ≤ (i : Int) := by omega
  have h3 : ¬ tick < 0 := by omega
  have h4 : ¬ 1099511627776 < tick := by omega
  have i1 : (0 : Int) ≤ (y : Int) := by omega
  have i2 : (y : Int) < (s : Int) := by omega
  by_cases h5 : (s : Int) < (y : Int) + (k : Int)
  · obtain rfl : m = s - y := by omega
    have t1 : (((s - y : Nat) : Int) == (s : Int) - (y : Int)) = true := by simp; omega
    have t2 : (((s - y : Nat) : Int) != (s : Int) - (y : Int)) = false := by rw [bne, t1]; rfl
    clear hm ht hi
    go_enter Try.func38, Try.ntmps38
    go_wp2_with fail
    refine (HRB.out _).mono ?_
    rintro e w1 ⟨rfl, rfl⟩
    go_wp2
    obtain ⟨a0, a1, a2, a3, a4⟩ := blk5 HBX.out.1
    exact bodyPost_ret (v := .tuple #[.agg #[.int .i64 s, .int .i64 k, .int .i64 n, .slice _ s c, .bool false], .int .i64 13]) (by simp [results, Try.f38, go_sem, a0, a1, a2, a3, a4]) rfl ⟨rfl, HBX.out.2⟩
  · obtain rfl : m = k := by omega
    have t1 : ((m : Int) == (y : Int) + (m : Int) - (y : Int)) = true := by simp; omega
    have t2 : ((m : Int) != (y : Int) + (m : Int) - (y : Int)) = false := by rw [bne, t1]; rfl
    have t3 : ((m : Int) == (m : Int)) = true := by simp
    have t4 : ((m : Int) != (m : Int)) = false := by rw [bne, t3]; rfl
    clear hm ht hi
    go_enter Try.func38, Try.ntmps38
    go_wp2_with fail
    refine (HRB.out _).mono ?_
    rintro e w1 ⟨rfl, rfl⟩
    go_wp2
    obtain ⟨a0, a1, a2, a3, a4⟩ := blk5 HBX.out.1
    exact bodyPost_ret (v := .tuple #[.agg #[.int .i64 s, .int .i64 m, .int .i64 n, .slice _ s c, .bool false], .int .i64 13]) (by simp [results, Try.f38, go_sem, a0, a1, a2, a3, a4]) rfl ⟨rfl, HBX.out.2⟩

/-- the bytes behind Put -/
def putL (l : List Int) (y t : Nat) (tx : List Int) : List Int := (List.range l.length).map fun i => if y ≤ i ∧ i < t then tx.getD (i - y) 0 else l.getD i 0
theorem putL_len (l : List Int) (y t : Nat) (tx : List Int) : (putL l y t tx).length = l.length := by unfold putL; simp
theorem putL_get {l : List Int} {y t : Nat} {tx : List Int} {q : Nat} (h : q < l.length) : (putL l y t tx)[q]? = some (if y ≤ q ∧ q < t then tx.getD (q - y) 0 else l.getD q 0) := by
  unfold putL
  rw [List.getElem?_map, List.getElem?_range h]; rfl
/-- its first ones, as cells -/
def plV (l : List Int) (q : Nat) : List Value := (l.take q).map (Value.int .i64)
theorem take_snoc {α β : Type} (f : α → β) {l : List α} {q : Nat} {u : α} (h : l[q]? = some u) : (l.take (q + 1)).map f = (l.take q).map f ++ [f u] := by
  rw [List.take_add_one, h, List.map_append]; rfl
set_option maxRecDepth 100000 in
set_option maxHeartbeats 1000000 in
theorem refput_ok (s k n i m : Nat) (tick u : Int) (l tx : List Int) (A B : Option Addr) (c d : Nat) (w : World) (hp : PlanOk s k n) (hi : i < nb s k) (ht : 0 ≤ tick ∧ tick ≤ 1099511627776) (hm : (m : Int) = min ((i * k + k : Nat) : Int) s - ((i * k : Nat) : Int)) (hr : Reads w 1 (.slice A s c) s (l.map (Value.int .i64))) (hu : l[i * k]? = some u) (hu0 : u < 0)
    (hl : l.length = s) (hx : Reads w 1 (.slice B m d) m (tx.map (Value.int .u8))) (hxl : tx.length = m) (hby : ∀ b ∈ tx, 0 ≤ b ∧ b < 256) :
    Calls Try.prog 38 #[.agg #[.int .i64 s, .int .i64 k, .int .i64 n, .slice A s c, .bool false], .int .i64 (i : Int), .slice B m d, .int .i64 tick] w fun e w' => ∃ A' c', e = .returned (.tuple #[.agg #[.int .i64 s, .int .i64 k, .int .i64 n, .slice A' s c', .bool false], .int .i64 0]) ∧ w'.ownsRow w.heap.size 3 1 (.slice A' s c') s ((putL l (i * k) (i * k + m) tx).map (Value.int .i64)) ∧ Below w.heap.size w w' := by
  obtain ⟨i0, hi0, hz0, hz1, hz2⟩ := info_parts info_int
  have HI0 := Lib.hid hi0
  have HZ0 := Lib.hid hz0
  have HZ1 := Lib.hid hz1
  have HZ2 := Lib.hid hz2
  obtain ⟨wz, hwz, HB4, HB8, HLZ, HZZ⟩ := boxes2 w #[.int .i64 s, .int .i64 k, .int .i64 n, .slice A s c, .bool false] #[.int .i64 0, .int .i64 0, .int .i64 0, .slice none 0 0, .bool false] 53
  have HWZ := Lib.hid hwz
  have HRB := Lib.hid (fun w => refblocks_any s k w hp.1 hp.2.1 hp.2.2.1)
  have hs16 := hp.1
  have hk64 : k ≤ 64 := hp.2.2.1
  have hz := nb_le hp.1 hp.2.1
  have hy := (nb_lt hp.2.1).1 hi
  have hmul := mul_le' (i := i) (k := k) (by omega) hk64
  have w1 := wrap_m1 i k (by omega)
  obtain ⟨g, p, c', he, y0⟩ := hr.at (i * k) _ (by rw [List.getElem?_map, hu]; rfl)
  cases he
  have hg := World.block_lt_of_cell? _ _ y0
  have HR := Lib.hid hr
  have HX := Lib.hid hx
  have HXL := Lib.hid hxl
  have HBY := Lib.hid hby
  have HLN := Lib.hid hl
  clear hp hr hu hx hby hxl hl hwz hi0 hz0 hz1 hz2
  generalize i * k = y at *
  generalize nb s k = z at *
  have h1 : ¬ (i : Int) < 0 := by omega
  have h2 : ¬ (z : Int) ≤ (i : Int) := by omega
  have h3 : ¬ tick < 0 := by omega
  have h4 : ¬ 1099511627776 < tick := by omega
  have i1 : (0 : Int) ≤ (y : Int) := by omega
  have i2 : (y : Int) < (s : Int) := by omega
  have h6 : ¬ (0 : Int) ≤ u := by omega
  obtain ⟨pl, hpl⟩ : ∃ pl, pl = putL l y (y + m) tx := ⟨_, rfl⟩
  have HPL := Lib.hid hpl
  rw [← hpl]
  have hm1 : y + m ≤ s := by omega
  obtain ⟨t, htt⟩ : ∃ t : Nat, t = y + m := ⟨_, rfl⟩
  have t1 : ((m : Int) == (t : Int) - (y : Int)) = true := by simp; omega
  have t2 : ((m : Int) != (t : Int) - (y : Int)) = false := by rw [bne, t1]; rfl
  by_cases h5 : (s : Int) < (y : Int) + (k : Int)
  · obtain rfl : t = s := by omega
    have HTM : Hid (t = y + m) := htt
    clear hm ht hi hpl htt
    go_enter Try.func38, Try.ntmps38
    go_wp2_with fail
    refine (HRB.out _).mono ?_
    rintro e w1 ⟨rfl, rfl⟩
    go_wp2_with fail
    rw [← HWZ.out]
    clear y0
    go_loopw [12, 13] (fun o i wr => ∃ (q : Nat) (A' : Option Addr) (c' : Nat), q ≤ t ∧ i = .int .i64 q ∧ o = .slice A' q c' ∧ Hid (wr.ownsRow wz.heap.size 3 1 (.slice A' q c') q (plV pl q)) ∧ Hid (Below wz.heap.size wz wr)) (fun _ i _ => t - (intOf i).toNat)
    case atStart => exact ⟨0, none, 0, by omega, rfl, rfl, ⟨rfl, .inl ⟨rfl, rfl⟩⟩, Below.refl _ _⟩
    case round =>
      obtain ⟨q, A', c', hq, rfl, rfl, HO, HM⟩ := hrel
      have HX4 := Lib.hid (HB4.out.belowAt HM.out HB4.out.lt)
      obtain ⟨x0, x1, x2, x3, x4⟩ := blk5 HX4.out
      by_cases hlt : q < t
      · obtain ⟨lq, hlq⟩ : ∃ v, l[q]? = some v := ⟨_, List.getElem?_eq_getElem (by rw [HLN.out]; exact hlt)⟩
        obtain ⟨g', p', c'', he, z0⟩ := (HR.out.below (bmore HLZ.out HM.out HLZ.out.size)).at q _ (by rw [List.getElem?_map, hlq]; rfl)
        cases he
        have hs0 : wz.heap.size ≤ wr.heap.size := HM.out.size
        have j1 : (0 : Int) ≤ (q : Int) := by omega
        have j2 : (q : Int) < (t : Int) := by omega
        by_cases hin : y ≤ q ∧ q < y + m
        · obtain ⟨b, hb⟩ : ∃ v, tx[q - y]? = some v := ⟨_, List.getElem?_eq_getElem (by rw [HXL.out]; omega)⟩
          obtain ⟨g2, p2, c2, he, z1⟩ := (HX.out.below (bmore HLZ.out HM.out HLZ.out.size)).at (q - y) _ (by rw [List.getElem?_map, hb]; rfl)
          cases he
          have hbb := HBY.out b (List.mem_of_getElem? hb)
          have HV : Hid (pl[q]? = some b) := by show _ = _; rw [HPL.out, putL_get (by rw [HLN.out]; exact hlt), if_pos hin, List.getD, hb]; rfl
          have j3 : ((q : Int) - (y : Int)).toNat = q - y := by omega
          have j4 : 0 ≤ (q : Int) - (y : Int) := by omega
          have j5 : (q : Int) - (y : Int) < (m : Int) := by omega
          have j6 : (y : Int) ≤ (q : Int) := by omega
          have j7 : (q : Int) < (t : Int) := by have := HTM.out; omega
          clear hb hlq hin
          go_wp2_with (at_builtin; refine wpList_app1 rfl _ _ 39 rfl wz.heap.size 3 i0 (.int .i64 0) 1 8 Try.underlying39 HI0.out HZ0.out HZ1.out HZ2.out rfl _ q _ rfl HO.out #[.int .i64 b] 1 rfl rfl (by intro u hu; simp at hu; subst hu; rfl) (by omega) (by omega) hs0 ?_; rintro A2 c2 w2 hown2 hk2 - -; have HB2 := Lib.hid (bkeep HM.out hk2 (Nat.le_refl _) (fun g e => (own_lt HO.out e).1)); have HO2 := Lib.hid hown2; clear hown2 hk2)
          have HO3 : Hid (w2.ownsRow wz.heap.size 3 1 (.slice A2 (q + 1) c2) (q + 1) (plV pl (q + 1))) := by
            show World.ownsRow ..
            unfold plV
            rw [take_snoc _ HV.out]
            exact HO2.out
          clear x0 x1 x2 x3 x4 z0 z1 j3 j4 j5
          go_wp2
          go_roundw
          case rel => exact ⟨q + 1, by omega, by go_num, A2, c2, ⟨rfl, rfl, rfl⟩, HO3⟩
          case measure => simp [intOf]; omega
        · have HV : Hid (pl[q]? = some lq) := by show _ = _; rw [HPL.out, putL_get (by rw [HLN.out]; exact hlt), if_neg hin, List.getD, hlq]; rfl
          clear hlq
          by_cases hyq : (y : Int) ≤ (q : Int)
          · exact absurd (by have := HTM.out; omega) hin
          · have j6 : ¬ (y : Int) ≤ (q : Int) := hyq
            clear hin hyq
            go_wp2_with (at_builtin; refine wpList_app1 rfl _ _ 39 rfl wz.heap.size 3 i0 (.int .i64 0) 1 8 Try.underlying39 HI0.out HZ0.out HZ1.out HZ2.out rfl _ q _ rfl HO.out #[.int .i64 lq] 1 rfl rfl (by intro u hu; simp at hu; subst hu; rfl) (by omega) (by omega) hs0 ?_; rintro A2 c2 w2 hown2 hk2 - -; have HB2 := Lib.hid (bkeep HM.out hk2 (Nat.le_refl _) (fun g e => (own_lt HO.out e).1)); have HO2 := Lib.hid hown2; clear hown2 hk2)
            have HO3 : Hid (w2.ownsRow wz.heap.size 3 1 (.slice A2 (q + 1) c2) (q + 1) (plV pl (q + 1))) := by
              show World.ownsRow ..
              unfold plV
              rw [take_snoc _ HV.out]
              exact HO2.out
            clear x0 x1 x2 x3 x4 z0
            go_wp2
            go_roundw
            case rel => exact ⟨q + 1, by omega, by go_num, A2, c2, ⟨rfl, rfl, rfl⟩, HO3⟩
            case measure => simp [intOf]; omega
      · obtain rfl : q = t := by omega
        have HX8 := Lib.hid (HB8.out.belowAt HM.out HB8.out.lt)
        have HX4b : Hid (Blk (wr.setCell ⟨w.heap.size, 3, none⟩ (.slice A' q c')) w.heap.size #[.int .i64 q, .int .i64 k, .int .i64 n, .slice A' q c', .bool false] 53) := HX4.out.set' (by simp)
        have HX8b : Hid (Blk (wr.setCell ⟨w.heap.size, 3, none⟩ (.slice A' q c')) (w.heap.size + 1) #[.int .i64 0, .int .i64 0, .int .i64 0, .slice none 0 0, .bool false] 53) := HX8.out.setOther (by simp) _
        have f3 := HX4.out.frozen 3
        have hl4 := HX4.out.lt
        have hl8 := HX8.out.lt
        have e0 := HX8.out.frozen 0
        have e1 := HX8.out.frozen 1
        have e2 := HX8.out.frozen 2
        have e3 := HX8.out.frozen 3
        have e4 := HX8.out.frozen 4
        obtain ⟨z0, z1, z2, z3, z4⟩ := blk5 HX8.out
        have HKS := Lib.hid (set_state (.int .i64 q) (.int .i64 k) (.int .i64 n) (.slice A' q c') (.bool false) HX8b.out)
        have HFB := Lib.hid (below_state (.int .i64 q) (.int .i64 k) (.int .i64 n) (.slice A' q c') (.bool false) ((bmore HLZ.out HM.out HLZ.out.size).setCell (p := ⟨w.heap.size, 3, none⟩) (Nat.le_refl _) (.slice A' q c')) (b := w.heap.size + 1) (Nat.le_succ _))
        have HKP := Lib.hid (keep_state (S := fun g => g = w.heap.size ∨ g = w.heap.size + 1) (.int .i64 q) (.int .i64 k) (.int .i64 n) (.slice A' q c') (.bool false) ((Keep.refl (fun g => g = w.heap.size ∨ g = w.heap.size + 1) wr).setCell (p := ⟨w.heap.size, 3, none⟩) (.inl (.inl rfl)) (.slice A' q c')) (b := w.heap.size + 1) (.inl (.inr rfl)))
        have HOF : Hid (wr.ownsRow wz.heap.size 3 1 (.slice A' q c') q (pl.map (Value.int .i64))) := by
          show World.ownsRow ..
          have h := HO.out
          unfold plV at h
          rw [List.take_of_length_le (by rw [HPL.out, putL_len, HLN.out]; exact Nat.le_refl _)] at h
          exact h
        go_wp2
        obtain ⟨a0, a1, a2, a3, a4⟩ := blk5 HKS.out
        exact bodyPost_ret (v := .tuple #[.agg #[.int .i64 q, .int .i64 k, .int .i64 n, .slice A' q c', .bool false], .int .i64 0]) (by simp [results, Try.f38, go_sem, hl4, hl8, a0, a1, a2, a3, a4]) rfl ⟨A', c', rfl, ownsRow_base (ownsRow_keep HOF.out HKP.out (fun g hg e => by have := (own_lt HOF.out hg).1; have := HZZ.out; omega)) (by have := HZZ.out; omega), HFB.out⟩
  · obtain rfl : m = k := by omega
    subst htt
    have HTM : Hid (True) := trivial
    have t3 : ((m : Int) == (m : Int)) = true := by simp
    have t4 : ((m : Int) != (m : Int)) = false := by rw [bne, t3]; rfl
    have t5 : ((m : Int) == (y : Int) + (m : Int) - (y : Int)) = true := by simp; omega
    have t6 : ((m : Int) != (y : Int) + (m : Int) - (y : Int)) = false := by rw [bne, t5]; rfl
    clear hm ht hi hpl t1 t2
    go_enter Try.func38, Try.ntmps38
    go_wp2_with fail
    refine (HRB.out _).mono ?_
    rintro e w1 ⟨rfl, rfl⟩
    go_wp2_with fail
    rw [← HWZ.out]
    clear y0
    go_loopw [12, 13] (fun o i wr => ∃ (q : Nat) (A' : Option Addr) (c' : Nat), q ≤ s ∧ i = .int .i64 q ∧ o = .slice A' q c' ∧ Hid (wr.ownsRow wz.heap.size 3 1 (.slice A' q c') q (plV pl q)) ∧ Hid (Below wz.heap.size wz wr)) (fun _ i _ => s - (intOf i).toNat)
    case atStart => exact ⟨0, none, 0, by omega, rfl, rfl, ⟨rfl, .inl ⟨rfl, rfl⟩⟩, Below.refl _ _⟩
    case round =>
      obtain ⟨q, A', c', hq, rfl, rfl, HO, HM⟩ := hrel
      have HX4 := Lib.hid (HB4.out.belowAt HM.out HB4.out.lt)
      obtain ⟨x0, x1, x2, x3, x4⟩ := blk5 HX4.out
      by_cases hlt : q < s
      · obtain ⟨lq, hlq⟩ : ∃ v, l[q]? = some v := ⟨_, List.getElem?_eq_getElem (by rw [HLN.out]; exact hlt)⟩
        obtain ⟨g', p', c'', he, z0⟩ := (HR.out.below (bmore HLZ.out HM.out HLZ.out.size)).at q _ (by rw [List.getElem?_map, hlq]; rfl)
        cases he
        have hs0 : wz.heap.size ≤ wr.heap.size := HM.out.size
        have j1 : (0 : Int) ≤ (q : Int) := by omega
        have j2 : (q : Int) < (s : Int) := by omega
        by_cases hin : y ≤ q ∧ q < y + m
        · obtain ⟨b, hb⟩ : ∃ v, tx[q - y]? = some v := ⟨_, List.getElem?_eq_getElem (by rw [HXL.out]; omega)⟩
          obtain ⟨g2, p2, c2, he, z1⟩ := (HX.out.below (bmore HLZ.out HM.out HLZ.out.size)).at (q - y) _ (by rw [List.getElem?_map, hb]; rfl)
          cases he
          have hbb := HBY.out b (List.mem_of_getElem? hb)
          have HV : Hid (pl[q]? = some b) := by show _ = _; rw [HPL.out, putL_get (by rw [HLN.out]; exact hlt), if_pos hin, List.getD, hb]; rfl
          have j3 : ((q : Int) - (y : Int)).toNat = q - y := by omega
          have j4 : 0 ≤ (q : Int) - (y : Int) := by omega
          have j5 : (q : Int) - (y : Int) < (m : Int) := by omega
          have j6 : (y : Int) ≤ (q : Int) := by omega
          have j7 : (q : Int) < (y : Int) + (m : Int) := by have := HTM.out; omega
          clear hb hlq hin
          go_wp2_with (at_builtin; refine wpList_app1 rfl _ _ 39 rfl wz.heap.size 3 i0 (.int .i64 0) 1 8 Try.underlying39 HI0.out HZ0.out HZ1.out HZ2.out rfl _ q _ rfl HO.out #[.int .i64 b] 1 rfl rfl (by intro u hu; simp at hu; subst hu; rfl) (by omega) (by omega) hs0 ?_; rintro A2 c2 w2 hown2 hk2 - -; have HB2 := Lib.hid (bkeep HM.out hk2 (Nat.le_refl _) (fun g e => (own_lt HO.out e).1)); have HO2 := Lib.hid hown2; clear hown2 hk2)
          have HO3 : Hid (w2.ownsRow wz.heap.size 3 1 (.slice A2 (q + 1) c2) (q + 1) (plV pl (q + 1))) := by
            show World.ownsRow ..
            unfold plV
            rw [take_snoc _ HV.out]
            exact HO2.out
          clear x0 x1 x2 x3 x4 z0 z1 j3 j4 j5
          go_wp2
          go_roundw
          case rel => exact ⟨q + 1, by omega, by go_num, A2, c2, ⟨rfl, rfl, rfl⟩, HO3⟩
          case measure => simp [intOf]; omega
        · have HV : Hid (pl[q]? = some lq) := by show _ = _; rw [HPL.out, putL_get (by rw [HLN.out]; exact hlt), if_neg hin, List.getD, hlq]; rfl
          clear hlq
          by_cases hyq : (y : Int) ≤ (q : Int)
          · have j6 : (y : Int) ≤ (q : Int) := hyq
            have j7 : ¬ (q : Int) < (y : Int) + (m : Int) := by omega
            clear hin hyq
            go_wp2_with (at_builtin; refine wpList_app1 rfl _ _ 39 rfl wz.heap.size 3 i0 (.int .i64 0) 1 8 Try.underlying39 HI0.out HZ0.out HZ1.out HZ2.out rfl _ q _ rfl HO.out #[.int .i64 lq] 1 rfl rfl (by intro u hu; simp at hu; subst hu; rfl) (by omega) (by omega) hs0 ?_; rintro A2 c2 w2 hown2 hk2 - -; have HB2 := Lib.hid (bkeep HM.out hk2 (Nat.le_refl _) (fun g e => (own_lt HO.out e).1)); have HO2 := Lib.hid hown2; clear hown2 hk2)
            have HO3 : Hid (w2.ownsRow wz.heap.size 3 1 (.slice A2 (q + 1) c2) (q + 1) (plV pl (q + 1))) := by
              show World.ownsRow ..
              unfold plV
              rw [take_snoc _ HV.out]
              exact HO2.out
            clear x0 x1 x2 x3 x4 z0
            go_wp2
            go_roundw
            case rel => exact ⟨q + 1, by omega, by go_num, A2, c2, ⟨rfl, rfl, rfl⟩, HO3⟩
            case measure => simp [intOf]; omega
          · have j6 : ¬ (y : Int) ≤ (q : Int) := hyq
            clear hin hyq
            go_wp2_with (at_builtin; refine wpList_app1 rfl _ _ 39 rfl wz.heap.size 3 i0 (.int .i64 0) 1 8 Try.underlying39 HI0.out HZ0.out HZ1.out HZ2.out rfl _ q _ rfl HO.out #[.int .i64 lq] 1 rfl rfl (by intro u hu; simp at hu; subst hu; rfl) (by omega) (by omega) hs0 ?_; rintro A2 c2 w2 hown2 hk2 - -; have HB2 := Lib.hid (bkeep HM.out hk2 (Nat.le_refl _) (fun g e => (own_lt HO.out e).1)); have HO2 := Lib.hid hown2; clear hown2 hk2)
            have HO3 : Hid (w2.ownsRow wz.heap.size 3 1 (.slice A2 (q + 1) c2) (q + 1) (plV pl (q + 1))) := by
              show World.ownsRow ..
              unfold plV
              rw [take_snoc _ HV.out]
              exact HO2.out
            clear x0 x1 x2 x3 x4 z0
            go_wp2
            go_roundw
            case rel => exact ⟨q + 1, by omega, by go_num, A2, c2, ⟨rfl, rfl, rfl⟩, HO3⟩
            case measure => simp [intOf]; omega
      · obtain rfl : q = s := by omega
        have HX8 := Lib.hid (HB8.out.belowAt HM.out HB8.out.lt)
        have HX4b : Hid (Blk (wr.setCell ⟨w.heap.size, 3, none⟩ (.slice A' q c')) w.heap.size #[.int .i64 q, .int .i64 m, .int .i64 n, .slice A' q c', .bool false] 53) := HX4.out.set' (by simp)
        have HX8b : Hid (Blk (wr.setCell ⟨w.heap.size, 3, none⟩ (.slice A' q c')) (w.heap.size + 1) #[.int .i64 0, .int .i64 0, .int .i64 0, .slice none 0 0, .bool false] 53) := HX8.out.setOther (by simp) _
        have f3 := HX4.out.frozen 3
        have hl4 := HX4.out.lt
        have hl8 := HX8.out.lt
        have e0 := HX8.out.frozen 0
        have e1 := HX8.out.frozen 1
        have e2 := HX8.out.frozen 2
        have e3 := HX8.out.frozen 3
        have e4 := HX8.out.frozen 4
        obtain ⟨z0, z1, z2, z3, z4⟩ := blk5 HX8.out
        have HKS := Lib.hid (set_state (.int .i64 q) (.int .i64 m) (.int .i64 n) (.slice A' q c') (.bool false) HX8b.out)
        have HFB := Lib.hid (below_state (.int .i64 q) (.int .i64 m) (.int .i64 n) (.slice A' q c') (.bool false) ((bmore HLZ.out HM.out HLZ.out.size).setCell (p := ⟨w.heap.size, 3, none⟩) (Nat.le_refl _) (.slice A' q c')) (b := w.heap.size + 1) (Nat.le_succ _))
        have HKP := Lib.hid (keep_state (S := fun g => g = w.heap.size ∨ g = w.heap.size + 1) (.int .i64 q) (.int .i64 m) (.int .i64 n) (.slice A' q c') (.bool false) ((Keep.refl (fun g => g = w.heap.size ∨ g = w.heap.size + 1) wr).setCell (p := ⟨w.heap.size, 3, none⟩) (.inl (.inl rfl)) (.slice A' q c')) (b := w.heap.size + 1) (.inl (.inr rfl)))
        have HOF : Hid (wr.ownsRow wz.heap.size 3 1 (.slice A' q c') q (pl.map (Value.int .i64))) := by
          show World.ownsRow ..
          have h := HO.out
          unfold plV at h
          rw [List.take_of_length_le (by rw [HPL.out, putL_len, HLN.out]; exact Nat.le_refl _)] at h
          exact h
        go_wp2
        obtain ⟨a0, a1, a2, a3, a4⟩ := blk5 HKS.out
        exact bodyPost_ret (v := .tuple #[.agg #[.int .i64 q, .int .i64 m, .int .i64 n, .slice A' q c', .bool false], .int .i64 0]) (by simp [results, Try.f38, go_sem, hl4, hl8, a0, a1, a2, a3, a4]) rfl ⟨A', c', rfl, ownsRow_base (ownsRow_keep HOF.out HKP.out (fun g hg e => by have := (own_lt HOF.out hg).1; have := HZZ.out; omega)) (by have := HZZ.out; omega), HFB.out⟩

/-- is a byte lacking? -/
def lackF (l : List Int) (k n : Nat) (K : Int) (i : Int) : Bool := decide (l.getD i.toNat 0 < 0) && decide ((lyr n (i.toNat / k) : Int) ≤ K)
theorem lackF_at {l : List Int} {k n q : Nat} {K u : Int} (h : l[q]? = some u) : lackF l k n K (q : Int) = (decide (u < 0) && decide ((lyr n (q / k) : Int) ≤ K)) := by
  unfold lackF
  rw [Int.toNat_natCast, List.getD, h]; rfl
theorem wrap_div (q k : Nat) (h : q ≤ 1000000) : wrap64 ((q : Int) / (k : Int)) = ((q / k : Nat) : Int) := by
  have h1 : q / k ≤ q := Nat.div_le_self _ _
  rw [show (q : Int) / (k : Int) = ((q / k : Nat) : Int) from rfl]
  generalize q / k = d at *
  unfold wrap64
  omega
set_option maxRecDepth 100000 in
set_option maxHeartbeats 400000 in
theorem reflack_any (s k n : Nat) (l : List Int) (ov : Bool) (K : Int) (A0 : Option Addr) (c0 : Nat) (w : World) (hp : PlanOk s k n) (hr : Reads w 1 (.slice A0 s c0) s (l.map (Value.int .i64))) (hl : l.length = s) :
    Calls Try.prog 39 #[.agg #[.int .i64 s, .int .i64 k, .int .i64 n, .slice A0 s c0, .bool ov], .int .i64 K] w fun e w' => ∃ S A c, e = .returned (.slice A S.length c) ∧ StrI (lackF l k n K) true 0 (s : Int) S ∧ w'.ownsRow w.heap.size 46 2 (.slice A S.length c) S.length (S.flatMap pairCells) ∧ Below w.heap.size w w' := by
  obtain ⟨i0, hi, hz0, hz1, hz2⟩ := info_parts info_pair
  have HI0 := Lib.hid hi
  have HZ0 := Lib.hid hz0
  have HZ1 := Lib.hid hz1
  have HZ2 := Lib.hid hz2
  have HP := Lib.hid hp
  have HR := Lib.hid hr
  have HL := Lib.hid hl
  have HBX := Lib.hid (Blk.new w #[.int .i64 s, .int .i64 k, .int .i64 n, .slice A0 s c0, .bool ov] 53)
  have HBA : Hid (Below w.heap.size w (w.alloc (.cells #[.int .i64 s, .int .i64 k, .int .i64 n, .slice A0 s c0, .bool ov] 53))) := (Below.refl _ w).alloc (Nat.le_refl _) _
  have hsz : (w.alloc (.cells #[.int .i64 s, .int .i64 k, .int .i64 n, .slice A0 s c0, .bool ov] 53)).heap.size = w.heap.size + 1 := by simp
  have HSZ := Lib.hid hsz
  obtain ⟨f, hf⟩ : ∃ f, f = lackF l k n K := ⟨_, rfl⟩
  have HF := Lib.hid hf
  rw [← hf]
  have hs16 : s ≤ 16384 := hp.1
  have hk1 : 1 ≤ k := hp.2.1
  clear hp hr hl hsz hf hi hz0 hz1 hz2
  go_enter Try.func39, Try.ntmps39
  go_wp2_with fail
  generalize w.alloc (.cells #[.int .i64 s, .int .i64 k, .int .i64 n, .slice A0 s c0, .bool ov] 53) = wq at *
  go_loopw [5, 6] (fun o i wr => ∃ (q : Nat) (S : List (Int × Int)) (A : Option Addr) (c : Nat), q ≤ s ∧ i = .int .i64 q ∧ o = .slice A S.length c ∧ Hid (StrI f true 0 q S) ∧ Hid (wr.ownsRow wq.heap.size 46 2 (.slice A S.length c) S.length (S.flatMap pairCells)) ∧ Hid (Below wq.heap.size wq wr)) (fun _ i _ => s - (intOf i).toNat)
  case atStart => exact ⟨0, [], none, 0, by omega, rfl, rfl, StrI.start f true 0, ⟨by simp, .inl ⟨rfl, rfl⟩⟩, Below.refl _ _⟩
  case round =>
    obtain ⟨q, S, A', c', hq, rfl, rfl, HI, HO, HB⟩ := hrel
    have hbx := HBX.out.belowAt HB.out HBX.out.lt
    by_cases hlt : q < s
    · obtain ⟨u, hu⟩ : ∃ v, l[q]? = some v := ⟨_, List.getElem?_eq_getElem (by rw [HL.out]; exact hlt)⟩
      obtain ⟨g0, p0, cc, he, z0⟩ := (HR.out.below (bmore HBA.out HB.out HBA.out.size)).at q _ (by rw [List.getElem?_map, hu]; rfl)
      cases he
      have HFQ : Hid (f q = (decide (u < 0) && decide ((lyr n (q / k) : Int) ≤ K))) := by
        show _ = _
        rw [HF.out]
        exact lackF_at hu
      obtain ⟨x0, x1, x2, x3, x4⟩ := blk5 hbx
      have i1 : (0 : Int) ≤ (q : Int) := by omega
      have i2 : (q : Int) < (s : Int) := by omega
      obtain ⟨G, hne, F, hF, hG⟩ := fam_of wr
      have HFB := Lib.hid hF
      have hw7 : ∀ g p v, wr.cell? p = some v → (F g).cell? p = some v := fun g p v hc => (World.cell?_of_block (w := wr) ((hF g).block _ (World.block_lt_of_cell? _ _ hc))).trans hc
      have f1 := fun g => hw7 g _ _ x1
      have f2 := fun g => hw7 g _ _ x2
      have f3 := fun g => hw7 g _ _ x3
      have f4 := fun g => hw7 g _ _ z0
      have hd : ∃ g, { wr with drawn := wr.drawn + 1 } = F g := hG _ (below_drewN (Below.refl _ wr) 1)
      have HD' := Lib.hid hd
      have hdv := wrap_div q k (by omega)
      have hdl : q / k ≤ q := Nat.div_le_self _ _
      have hk0 : (k : Int) ≠ 0 := by omega
      have hly := fun w => reflayer_any (q / k) n w (by omega) HP.out.2.2.2
      rw [← hdv] at hly
      obtain ⟨ly, hly'⟩ : ∃ ly, ly = lyr n (q / k) := ⟨_, rfl⟩
      rw [← hly'] at hly HFQ
      have KLY : Hid (∀ g, Calls Try.prog 16 #[.int .i64 (wrap64 ((q : Int) / (k : Int))), .int .i64 n] (F g) fun e w' => e = .returned (.int .i64 (ly : Int)) ∧ ∃ g', w' = F g') := fun g => fam_same (hly (F g))
      clear hly' hly hdv hdl hu hbx hd hF hG hw7 x1 x2 x3 x4 z0
      by_cases hu0 : u < 0
      · have d1 : decide (0 ≤ u) = false := by simp; omega
        have d2 : ¬ 0 ≤ u := by omega
        by_cases hlk : (ly : Int) ≤ K
        · have d3 : decide (K < (ly : Int)) = false := by simp; omega
          go_wp2_with fail
          refine wp_region_fam F (by kernel_rfl) (by kernel_rfl) HD'.out ?_
          repeat (go_big_quiet_step (first
            | (go_at_call 16; exact KLY.out _)))
          refine wpQuiet_nil ?_
          intro w8 hw'
          obtain ⟨g, hw'⟩ := hw'
          have HB8 := Lib.hid (bmore HB.out (HFB.out g) HB.out.size)
          have HO8 : Hid ((F g).ownsRow wq.heap.size 46 2 (.slice A' S.length c') S.length (S.flatMap pairCells)) := ownsRow_keep HO.out (Keep.none (HFB.out g)) (fun _ _ => id)
          obtain ⟨W, hWe⟩ : ∃ W, W = F g := ⟨_, rfl⟩
          rw [← hWe] at HB8 HO8 hw'
          subst hw'
          clear hWe f1 f2 f3 f4 HFB HD' KLY x0
          have hf : (f q == true) = true := by rw [HFQ.out, decide_eq_true hu0, decide_eq_true hlk]; rfl
          have hs := HB8.out.size
          have hSl := HI.out.1.len'
          clear hlk hu0 d1 d2 d3 hk0
          rcases List.eq_nil_or_concat S with rfl | ⟨S0, ⟨xa, xb⟩, rfl⟩
          · have HI2 : Hid (StrI f true 0 ((q + 1 : Nat) : Int) [((q : Int), (q : Int) + 1)]) := HI.out.new (by omega) (by omega) (by omega) hf (fun x hx => by cases hx)
            clear hf
            go_wp2_with (at_builtin; refine wpList_app1 rfl _ _ 44 rfl wq.heap.size 46 i0 (.agg #[.int .i64 0, .int .i64 0]) 2 16 Try.underlying44 HI0.out HZ0.out HZ1.out HZ2.out rfl _ (0) _ rfl HO8.out #[.int .i64 (q : Int), .int .i64 ((q : Int) + 1)] 1 rfl rfl (by intro u hu; simp at hu; rcases hu with rfl | rfl <;> rfl) (by omega) (by omega) hs ?_; rintro A2 c2 w2 hown2 hk2 - -)
            have HB2 : Hid (Below wq.heap.size wq w2) := bkeep HB8.out hk2 (Nat.le_refl _) (fun k hk => (own_lt HO8.out hk).1)
            have HO2 : Hid (w2.ownsRow wq.heap.size 46 2 (.slice A2 ([((q : Int), (q : Int) + 1)] : List (Int × Int)).length c2) ([((q : Int), (q : Int) + 1)] : List (Int × Int)).length ([((q : Int), (q : Int) + 1)].flatMap pairCells)) := hown2
            clear hown2 hk2
            go_wp2
            go_roundw
            case rel => exact ⟨q + 1, [((q : Int), (q : Int) + 1)], A2, c2, by omega, by go_num, rfl, HI2, HO2, HB2⟩
            case measure => simp [intOf]; omega
          · obtain ⟨k', hk⟩ : ∃ k, k = S0.length := ⟨_, rfl⟩
            rw [List.concat_eq_append] at HO8 HI hSl ⊢
            have hl : (S0 ++ [(xa, xb)]).length = k' + 1 := by rw [List.length_append, hk]; rfl
            have HL' := Lib.hid hl
            have HKK := Lib.hid hk
            rw [hl] at HO8 hSl ⊢
            obtain ⟨A'', c'', e', hkc, h2, h3, h4⟩ := ownsRow_shape HO8.out
            cases e'
            obtain ⟨G2, rfl⟩ : ∃ G, A' = some ⟨G, 0, none⟩ := by
              cases A' with
              | none => have := (h2 rfl).1; omega
              | some a => exact h4 a rfl
            have hfl : ((S0 ++ [(xa, xb)]).flatMap pairCells)[k' * 2 + 1]? = some (.int .i64 xb) := by
              rw [List.flatMap_append, List.getElem?_append_right (by rw [flatMap_length pairCells_len, ← hk]; omega), flatMap_length pairCells_len, ← hk, Nat.add_sub_cancel_left]; rfl
            have y1 : w8.cell? ⟨G2, k' * 2 + 1, none⟩ = some (.int .i64 xb) := ownsRow_cell HO8.out hfl
            have y2 := ownsRow_frozen HO8.out (k' * 2 + 1)
            simp only at y2
            have t5 : (0 : Int) ≤ (k' : Int) := by omega
            have t6 : (k' : Int) < (k' : Int) + 1 := by omega
            clear hl hk h2 h3 h4
            by_cases hx : xb = (q : Int)
            · have HI2 : Hid (StrI f true 0 ((q + 1 : Nat) : Int) (S0 ++ [(xa, (q : Int) + 1)])) := HI.out.on (by omega) (by omega) hf hx
              subst hx
              have HL2 : Hid ((S0 ++ [(xa, (q : Int) + 1)]).length = k' + 1) := by show _ = _; rw [List.length_append, HKK.out]; rfl
              have HO2 : Hid ((w8.setCell ⟨G2, k' * 2 + 1, none⟩ (.int .i64 ((q : Int) + 1))).ownsRow wq.heap.size 46 2 (.slice (some ⟨G2, 0, none⟩) (k' + 1) c') (k' + 1) ((S0 ++ [(xa, (q : Int) + 1)]).flatMap pairCells)) := by
                have ho := ownsRow_set HO8.out (j := k' * 2 + 1) (List.getElem?_eq_some_iff.1 hfl).1 (.int .i64 ((q : Int) + 1))
                rw [flat_last HKK.out.symm] at ho
                exact ho
              have HB2 : Hid (Below wq.heap.size wq (w8.setCell ⟨G2, k' * 2 + 1, none⟩ (.int .i64 ((q : Int) + 1)))) := bkeep HB8.out ((Keep.refl (fun j => j = G2) w8).setCell (p := ⟨G2, k' * 2 + 1, none⟩) (.inl rfl) _) (Nat.le_refl _) (fun j hj => by rw [hj]; exact (own_lt HO8.out rfl).1)
              have t3 : ((q : Int) == (q : Int)) = true := by simp
              clear hf hfl
              go_wp2
              go_roundw
              case rel => exact ⟨q + 1, S0 ++ [(xa, (q : Int) + 1)], some ⟨G2, 0, none⟩, c', by omega, by go_num, by rw [HL2.out], HI2, by rw [HL2.out]; exact HO2, HB2⟩
              case measure => simp [intOf]; omega
            · have HI2 : Hid (StrI f true 0 ((q + 1 : Nat) : Int) (S0 ++ [(xa, xb)] ++ [((q : Int), (q : Int) + 1)])) := HI.out.new (by omega) (by omega) (by omega) hf (HI.out.last hx)
              have HL2 : Hid ((S0 ++ [(xa, xb)] ++ [((q : Int), (q : Int) + 1)]).length = k' + 1 + 1) := by show _ = _; rw [List.length_append, HL'.out]; rfl
              have t3 : (xb == (q : Int)) = false := by simpa using hx
              clear hf hfl hx
              go_wp2_with (at_builtin; refine wpList_app1 rfl _ _ 44 rfl wq.heap.size 46 i0 (.agg #[.int .i64 0, .int .i64 0]) 2 16 Try.underlying44 HI0.out HZ0.out HZ1.out HZ2.out rfl _ (k' + 1) _ rfl HO8.out #[.int .i64 (q : Int), .int .i64 ((q : Int) + 1)] 1 rfl rfl (by intro u hu; simp at hu; rcases hu with rfl | rfl <;> rfl) (by omega) (by omega) hs ?_; rintro A2 c2 w2 hown2 hk2 - -)
              have HB2 : Hid (Below wq.heap.size wq w2) := bkeep HB8.out hk2 (Nat.le_refl _) (fun k hk => (own_lt HO8.out hk).1)
              have HO2 : Hid (w2.ownsRow wq.heap.size 46 2 (.slice A2 (k' + 1 + 1) c2) (k' + 1 + 1) ((S0 ++ [(xa, xb)] ++ [((q : Int), (q : Int) + 1)]).flatMap pairCells)) := by
                show World.ownsRow ..
                rw [List.flatMap_append (xs := S0 ++ [(xa, xb)])]; exact hown2
              clear hown2 hk2
              go_wp2
              go_roundw
              case rel => exact ⟨q + 1, S0 ++ [(xa, xb)] ++ [((q : Int), (q : Int) + 1)], A2, c2, by omega, by go_num, by rw [HL2.out], HI2, by rw [HL2.out]; exact HO2, HB2⟩
              case measure => simp [intOf]; omega
        · have d3 : decide (K < (ly : Int)) = true := by simp; omega
          have HI2 : Hid (StrI f true 0 ((q + 1 : Nat) : Int) S) := HI.out.skip (by omega) (by rw [HFQ.out, decide_eq_false hlk, Bool.and_false]; rfl)
          go_wp2_with fail
          refine wp_region_fam F (by kernel_rfl) (by kernel_rfl) HD'.out ?_
          repeat (go_big_quiet_step (first
            | (go_at_call 16; exact KLY.out _)))
          refine wpQuiet_nil ?_
          intro w8 hw'
          obtain ⟨g, hw'⟩ := hw'
          have HB8 := Lib.hid (bmore HB.out (HFB.out g) HB.out.size)
          have HO8 : Hid ((F g).ownsRow wq.heap.size 46 2 (.slice A' S.length c') S.length (S.flatMap pairCells)) := ownsRow_keep HO.out (Keep.none (HFB.out g)) (fun _ _ => id)
          obtain ⟨W, hWe⟩ : ∃ W, W = F g := ⟨_, rfl⟩
          rw [← hWe] at HB8 HO8 hw'
          subst hw'
          clear hWe f1 f2 f3 f4 HFB HD' KLY x0
          go_wp2
          go_roundw
          case rel => exact ⟨q + 1, S, A', c', by omega, by go_num, rfl, HI2, HO8, HB8⟩
          case measure => simp [intOf]; omega
      · have d1 : decide (0 ≤ u) = true := by simp; omega
        have d2 : 0 ≤ u := by omega
        have HI2 : Hid (StrI f true 0 ((q + 1 : Nat) : Int) S) := HI.out.skip (by omega) (by rw [HFQ.out, decide_eq_false hu0, Bool.false_and]; rfl)
        go_wp2_with fail
        refine wp_region_fam F (by kernel_rfl) (by kernel_rfl) HD'.out ?_
        repeat (go_big_quiet_step (first
          | (go_at_call 16; exact KLY.out _)))
        refine wpQuiet_nil ?_
        intro w8 hw'
        obtain ⟨g, hw'⟩ := hw'
        have HB8 := Lib.hid (bmore HB.out (HFB.out g) HB.out.size)
        have HO8 : Hid ((F g).ownsRow wq.heap.size 46 2 (.slice A' S.length c') S.length (S.flatMap pairCells)) := ownsRow_keep HO.out (Keep.none (HFB.out g)) (fun _ _ => id)
        obtain ⟨W, hWe⟩ : ∃ W, W = F g := ⟨_, rfl⟩
        rw [← hWe] at HB8 HO8 hw'
        subst hw'
        clear hWe f1 f2 f3 f4 HFB HD' KLY x0
        go_wp2
        go_roundw
        case rel => exact ⟨q + 1, S, A', c', by omega, by go_num, rfl, HI2, HO8, HB8⟩
        case measure => simp [intOf]; omega
    · obtain rfl : q = s := by omega
      obtain ⟨x0, x1, x2, x3, x4⟩ := blk5 hbx
      have HFIN := Lib.hid (bmore HBA.out HB.out HBA.out.size)
      have HOF := Lib.hid (ownsRow_base (base' := w.heap.size) HO.out (by have := HSZ.out; omega))
      clear hbx
      go_wp2
      go_ret
      exact ⟨S, A', c', rfl, HI.out, HOF.out, HFIN.out⟩

/-- for each byte what came, or -1 -/
def refB (x : BuS) : List Int := (List.range x.s).map fun p => if cov x.L ((p / x.k : Nat) : Int) then x.text.getD p 0 else -1
theorem refB_len (x : BuS) : (refB x).length = x.s := by unfold refB; simp
theorem refB_get {x : BuS} {p : Nat} (h : p < x.s) : (refB x)[p]? = some (if cov x.L ((p / x.k : Nat) : Int) then x.text.getD p 0 else -1) := by
  unfold refB
  rw [List.getElem?_map, List.getElem?_range h]; rfl
/-- bytes are none below 0; what did not come is 0 -/
structure TextOk (x : BuS) : Prop where
  len : x.text.length = x.s
  pos : ∀ p, p < x.s → 0 ≤ x.text.getD p 0 ∧ x.text.getD p 0 < 256
  none : ∀ p, p < x.s → cov x.L ((p / x.k : Nat) : Int) = false → x.text.getD p 0 = 0
theorem splice_getD {L cs : List Int} {o p : Nat} (h : o + cs.length ≤ L.length) : (splice L o cs).getD p 0 = if o ≤ p ∧ p < o + cs.length then cs.getD (p - o) 0 else L.getD p 0 := by
  unfold splice
  simp only [List.getD_eq_getElem?_getD]
  by_cases h1 : p < o
  · rw [List.getElem?_append_left (by simp; omega), List.getElem?_take_of_lt h1, if_neg (by omega)]
  · rw [List.getElem?_append_right (by simp; omega)]
    have e : (L.take o).length = o := by simp; omega
    rw [e]
    by_cases h2 : p < o + cs.length
    · rw [List.getElem?_append_left (by omega), if_pos (by omega)]
    · rw [List.getElem?_append_right (by omega), List.getElem?_drop, if_neg (by omega)]
      congr 2
      omega
/-- the bytes behind a call of Put -/
def refP (x : BuS) (block tick : Int) (tx : List Int) : List Int := if putE x block tick tx.length = 0 then putL (refB x) (block.toNat * x.k) (block.toNat * x.k + tx.length) tx else refB x
theorem TextOk.put {x x' : BuS} {block tick : Int} {bs : List Int} {w w' : World} (h : TextOk x) (hk : 1 ≤ x.k) (hp : PutR x block tick bs w w' x') (hb : ∀ b ∈ bs, 0 ≤ b ∧ b < 256) : TextOk x' ∧ refB x' = refP x block tick bs := by
  have hs := hp.same.2.2.2.1
  have hkk := hp.same.2.2.2.2.1
  by_cases hE : putE x block tick bs.length = 0
  · obtain ⟨y1, y2, -⟩ := hp.yes hE
    obtain ⟨-, hbl, -, hm, -⟩ := putE_zero hE
    obtain ⟨i, rfl⟩ : ∃ i : Nat, block = i := ⟨block.toNat, by omega⟩
    have e1 : (i : Int) * x.k = ((i * x.k : Nat) : Int) := (Int.natCast_mul _ _).symm
    rw [e1] at hm
    rw [Int.toNat_natCast] at y2
    have hbound : i * x.k + bs.length ≤ x.text.length := by
      rw [h.len]
      have := (nb_lt (s := x.s) (i := i) hk).1 (by omega)
      omega
    have hget : ∀ p, x'.text.getD p 0 = if i * x.k ≤ p ∧ p < i * x.k + bs.length then bs.getD (p - i * x.k) 0 else x.text.getD p 0 := fun p => by rw [y2]; exact splice_getD hbound
    have hin : ∀ p, p < x.s → (p / x.k = i ↔ i * x.k ≤ p ∧ p < i * x.k + bs.length) := fun p hp => by
      rw [blk_of hk hp]
      omega
    have hcv : ∀ p, p < x.s → cov x'.L ((p / x.k : Nat) : Int) = (cov x.L ((p / x.k : Nat) : Int) || decide (i * x.k ≤ p ∧ p < i * x.k + bs.length)) := fun p hp => by
      rw [y1]
      congr 1
      rw [decide_eq_decide, ← hin p hp]
      omega
    have hbs : ∀ q, 0 ≤ bs.getD q 0 ∧ bs.getD q 0 < 256 := fun q => by
      by_cases e : q < bs.length
      · rw [List.getD_eq_getElem?_getD, List.getElem?_eq_getElem e]
        exact hb _ (List.getElem_mem e)
      · rw [List.getD_eq_getElem?_getD, List.getElem?_eq_none (by omega)]
        exact ⟨Int.le_refl _, by decide⟩
    refine ⟨⟨?_, fun p hps => ?_, fun p hps hc => ?_⟩, ?_⟩
    · rw [y2, hs, ← h.len]
      unfold splice
      simp
      omega
    · rw [hs] at hps
      rw [hget]
      split
      · exact hbs _
      · exact h.pos p hps
    · rw [hs] at hps
      rw [hkk, hcv p hps] at hc
      simp at hc
      rw [hget, if_neg (by omega)]
      exact h.none p hps (by simpa using hc.1)
    · unfold refP
      rw [if_pos hE]
      apply List.ext_getElem?
      intro p
      by_cases hps : p < x.s
      · rw [refB_get (by rw [hs]; exact hps), Int.toNat_natCast, putL_get (by rw [refB_len]; exact hps), hkk, hcv p hps, hget]
        by_cases e : i * x.k ≤ p ∧ p < i * x.k + bs.length
        · simp [e]
        · rw [if_neg e, decide_eq_false e, Bool.or_false]
          rw [List.getD_eq_getElem?_getD (l := refB x), refB_get hps, if_neg e]
          rfl
      · rw [List.getElem?_eq_none (by rw [refB_len, hs]; omega), List.getElem?_eq_none (by rw [putL_len, refB_len]; omega)]
  · obtain ⟨y1, y2, -⟩ := hp.no hE
    have hr : refB x' = refB x := by unfold refB; rw [hs, hkk, y1, y2]
    refine ⟨⟨by rw [y2, hs]; exact h.len, fun p hps => ?_, fun p hps hc => ?_⟩, ?_⟩
    · rw [y2]; exact h.pos p (by rw [hs] at hps; exact hps)
    · rw [y2]
      rw [hkk, y1] at hc
      exact h.none p (by rw [hs] at hps; exact hps) hc
    · unfold refP
      rw [if_neg hE, hr]
theorem refB_over (x : BuS) (v : Bool) : refB { x with ov := v } = refB x := rfl
/-- the stretches that lack, as bytes -/
theorem lack_spans {x : BuS} {m : Int} {M S : List (Int × Int)} (hp : PlanOk x.s x.k x.n) (ht : TextOk x) (hM : Good (-1) M) (hC : ∀ i, cov M i = (uptoB x.n m (nb x.s x.k) i && !cov x.L i)) (hS : StrI (lackF (refB x) x.k x.n m) true 0 (x.s : Int) S) : S = M.map (spanP x) := by
  have hk := hp.2.1
  have hmem : ∀ y ∈ M, 0 ≤ y.1 ∧ y.1 < y.2 ∧ y.2 ≤ nb x.s x.k := fun y hy => miss_mem hM hC hy
  have hkI : (1 : Int) ≤ x.k := by omega
  have hlt : ∀ t : Int, 0 ≤ t → t < nb x.s x.k → t * x.k < x.s := fun t h0 h1 => by
    obtain ⟨i, rfl⟩ : ∃ i : Nat, t = i := ⟨t.toNat, by omega⟩
    have := (nb_lt (s := x.s) (i := i) hk).1 (by omega)
    rw [← Int.natCast_mul]; omega
  have hgood : ∀ (M : List (Int × Int)) (lo lo' : Int), Good lo M → lo' < (lo + 1) * x.k → (∀ y ∈ M, 0 ≤ y.1 ∧ y.1 < y.2 ∧ y.2 ≤ nb x.s x.k) → Good lo' (M.map (spanP x)) := by
    intro M
    induction M with
    | nil => intro lo lo' _ _ _; trivial
    | cons y r ih =>
      intro lo lo' hg hl hm
      obtain ⟨g1, g2, g3, g4⟩ := hg
      obtain ⟨m1, m2, m3⟩ := hm y (by simp)
      have hy1 := hlt y.1 m1 (by omega)
      have h1 : (lo + 1) * x.k ≤ y.1 * x.k := Int.mul_le_mul_of_nonneg_right (by omega) (by omega)
      have h2 : (y.1 + 1) * x.k ≤ y.2 * x.k := Int.mul_le_mul_of_nonneg_right (by omega) (by omega)
      rw [Int.add_mul, Int.one_mul] at h2
      have hs16 : (x.s : Int) ≤ 16384 := by have := hp.1; omega
      refine ⟨by show lo' < y.1 * x.k; omega, by show y.1 * x.k < min (y.2 * x.k) x.s; omega, by show min (y.2 * x.k) (x.s : Int) ≤ 16384; omega, ih y.2 _ g4 ?_ (fun z hz => hm z (by simp [hz]))⟩
      show min (y.2 * x.k) (x.s : Int) < (y.2 + 1) * x.k
      rw [Int.add_mul, Int.one_mul]
      omega
  refine good_uniq hS.1 (hgood M (-1) (-1) hM (by omega) hmem) (fun p => ?_)
  rw [hS.2 p]
  by_cases hps : 0 ≤ p ∧ p < x.s
  · obtain ⟨q, rfl⟩ : ∃ q : Nat, p = q := ⟨p.toNat, by omega⟩
    have hq : q < x.s := by omega
    have hin : inB 0 (x.s : Int) (q : Int) = true := by unfold inB; simp; omega
    have hqb : q / x.k < nb x.s x.k := by
      rw [nb_lt hk]
      have := Nat.div_mul_le_self q x.k
      omega
    have hcM : cov (M.map (spanP x)) q = cov M ((q / x.k : Nat) : Int) := by
      rw [Bool.eq_iff_iff, cov_iff, cov_iff]
      constructor
      · rintro ⟨z, hz, z1, z2⟩
        obtain ⟨y, hy, rfl⟩ := List.mem_map.1 hz
        obtain ⟨m1, m2, m3⟩ := hmem y hy
        have z1 : y.1 * x.k ≤ (q : Int) := z1
        have z2 : (q : Int) < min (y.2 * x.k) x.s := z2
        obtain ⟨a, ha⟩ : ∃ a : Nat, y.1 = a := ⟨y.1.toNat, by omega⟩
        obtain ⟨b, hb⟩ : ∃ b : Nat, y.2 = b := ⟨y.2.toNat, by omega⟩
        rw [ha, ← Int.natCast_mul] at z1
        rw [hb, ← Int.natCast_mul] at z2
        have h1 : a ≤ q / x.k := (Nat.le_div_iff_mul_le (by omega)).2 (by omega)
        have h2 : q / x.k < b := (Nat.div_lt_iff_lt_mul (by omega)).2 (by omega)
        exact ⟨y, hy, by omega, by omega⟩
      · rintro ⟨y, hy, y1, y2⟩
        obtain ⟨m1, m2, m3⟩ := hmem y hy
        obtain ⟨a, ha⟩ : ∃ a : Nat, y.1 = a := ⟨y.1.toNat, by omega⟩
        obtain ⟨b, hb⟩ : ∃ b : Nat, y.2 = b := ⟨y.2.toNat, by omega⟩
        have h1 := (Nat.le_div_iff_mul_le (x := a) (y := q) (show 0 < x.k by omega)).1 (by omega)
        have h2 := (Nat.div_lt_iff_lt_mul (x := q) (y := b) (show 0 < x.k by omega)).1 (by omega)
        refine ⟨spanP x y, List.mem_map.2 ⟨y, hy, rfl⟩, ?_, ?_⟩
        · show y.1 * x.k ≤ (q : Int)
          rw [ha, ← Int.natCast_mul]; omega
        · show (q : Int) < min (y.2 * x.k) x.s
          rw [hb, ← Int.natCast_mul]; omega
    rw [hin, Bool.true_and, hcM, hC, lackF_at (refB_get hq)]
    have hpos := (ht.pos q hq).1
    generalize x.text.getD q 0 = tq at *
    generalize q / x.k = d at *
    unfold uptoB
    rw [decide_eq_true (show 0 ≤ ((d : Nat) : Int) ∧ ((d : Nat) : Int) < (nb x.s x.k : Nat) by omega), Bool.true_and, Int.toNat_natCast]
    cases hc : cov x.L (d : Int) with
    | true =>
      simp
      omega
    | false => simp
  · have hin : inB 0 (x.s : Int) p = false := by unfold inB; rw [Bool.eq_false_iff]; simp; omega
    rw [hin, Bool.false_and]
    symm
    rw [Bool.eq_false_iff]
    intro hc
    obtain ⟨z, hz, z1, z2⟩ := cov_iff.1 hc
    obtain ⟨y, hy, rfl⟩ := List.mem_map.1 hz
    obtain ⟨m1, m2, m3⟩ := hmem y hy
    have z1 : y.1 * x.k ≤ p := z1
    have z2 : p < min (y.2 * x.k) x.s := z2
    have h0 : 0 ≤ y.1 * x.k := Int.mul_nonneg m1 (by omega)
    omega
end Go.Proofs.Ythjlbbbkghigfaa
