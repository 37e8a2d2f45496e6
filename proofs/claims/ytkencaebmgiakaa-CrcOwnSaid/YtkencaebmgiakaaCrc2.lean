/- crc: tail, Seal, Open. -/
import Derived.Test.YtkencaebmgiakaaBytes
namespace Go.Proofs.Ytkencaebmgiakaa
open Go.RowKit
set_option linter.unusedVariables false
set_option linter.unusedSimpArgs false

def tcell (x k i : Nat) : Value := .int .u8 (if i < k then ((x / 256 ^ i % 256 : Nat) : Int) else 0)
def tarr (x k : Nat) : Array Value := #[tcell x k 0, tcell x k 1, tcell x k 2, tcell x k 3]

set_option maxRecDepth 100000 in
set_option maxHeartbeats 1000000 in
theorem tail_any (x : Nat) (hx : x < 4294967296) (w : World) :
    Calls Try.prog 17 #[.int .u32 (x : Int)] w fun e w' => ∃ v, e = .returned v ∧ Own w' v (cbytes x) ∧ v.ownBlock = some w.heap.size ∧ Below w.heap.size w w' := by
  go_enter Try.func17, Try.ntmps17
  go_wp2
  go_loopw [4, 5] (fun _ i wr => ∃ k : Nat, k ≤ 4 ∧ i = .int .i64 k ∧ Hid (Blk wr w.heap.size (tarr x k) 40) ∧ Below w.heap.size w wr) (fun _ i _ => 4 - (intOf i).toNat)
  case atStart => exact ⟨0, by omega, rfl, by exact Blk.new w _ _, (Below.refl _ _).alloc (Nat.le_refl _) _⟩
  case round =>
    obtain ⟨k, hk, rfl, HB, hb⟩ := hrel
    have hs := hb.size
    by_cases hlt : k < 4
    · have hcell := HB.out.cell k (v := tcell x k k) (by rcases (by omega : k = 0 ∨ k = 1 ∨ k = 2 ∨ k = 3) with rfl | rfl | rfl | rfl <;> rfl)
      have hfr := HB.out.frozen k
      have hset := HB.out.set' (o := k) (u := .int .u8 ((x / 256 ^ k % 256 : Nat) : Int)) (cs' := tarr x (k + 1)) (by rcases (by omega : k = 0 ∨ k = 1 ∨ k = 2 ∨ k = 3) with rfl | rfl | rfl | rfl <;> simp [tarr, tcell])
      have HS := Lib.hid hset
      clear hset
      obtain ⟨k', hk'⟩ : ∃ k', k' = k + 1 := ⟨_, rfl⟩
      rw [← hk'] at HS
      have HP := Lib.hid hk'
      have hk4 : k' ≤ 4 := by omega
      have hm : 4 - k' < 4 - k := by omega
      clear hk'
      rcases (by omega : k = 0 ∨ k = 1 ∨ k = 2 ∨ k = 3) with rfl | rfl | rfl | rfl
      all_goals
        go_wp2
        go_roundw
        case rel => exact ⟨k', hk4, by rw [HP.out]; rfl, (by
            refine Eq.mp (congrArg (fun n => Blk (wr.setCell ⟨_, _, none⟩ (.int .u8 n)) _ _ _) ?_) HS.out
            first | omega | (simp; done)), bkeep hb ((Keep.refl (fun k => k = w.heap.size) wr).setCell (Or.inl rfl) _) (Nat.le_refl _) (fun k hk => by omega)⟩
        case measure => first | decide | (simp [intOf]; done)
    · obtain rfl : k = 4 := by omega
      have HB2 := HB
      go_wp2
      go_ret
      refine ⟨_, rfl, ⟨_, 4, rfl, fun _ => HB.out.lt, Nat.le_refl _, by decide, fun i hi => ?_, fun i hi => HB.out.frozen i⟩, rfl, hb⟩
      exact HB.out.cell i (by
        rcases (by simp [cbytes] at hi; omega : i = 0 ∨ i = 1 ∨ i = 2 ∨ i = 3) with rfl | rfl | rfl | rfl <;> simp [tarr, tcell, cbytes])

theorem bts_append {a b : List Nat} (ha : Bts a) (hb : Bts b) : Bts (a ++ b) := fun c hc => by rcases List.mem_append.1 hc with h | h; exact ha c h; exact hb c h
theorem bts_take {a : List Nat} (ha : Bts a) (n : Nat) : Bts (a.take n) := fun c hc => ha c (List.mem_of_mem_take hc)
theorem bts_drop {a : List Nat} (ha : Bts a) (n : Nat) : Bts (a.drop n) := fun c hc => ha c (List.mem_of_mem_drop hc)
theorem bts_cbytes (x : Nat) : Bts (cbytes x) := cbytes_lt x
theorem bts_cseal {b : List Nat} (hb : Bts b) : Bts (cseal b) := bts_append hb (bts_cbytes _)

set_option maxRecDepth 100000 in
set_option maxHeartbeats 1000000 in
theorem seal_any (v : Value) (b : List Nat) (w : World) (h : Reads w 1 v b.length (u8s b)) (hb : Bts b) (hn : b.length ≤ 10000000) :
    Calls Try.prog 11 #[v] w fun e w' => ∃ v', e = .returned v' ∧ Own w' v' (cseal b) ∧ (∀ g, v'.ownBlock = some g → w.heap.size ≤ g) ∧ Below w.heap.size w w' := by
  have HR := Lib.hid h
  obtain ⟨A, c, rfl, -⟩ := h.val
  clear h
  go_enter Try.func11, Try.ntmps11
  go_wp2_with fail
  refine (sum_any _ b _ HR.out hb).mono ?_
  rintro _ _ ⟨rfl, rfl⟩
  go_wp2_with fail
  refine (tail_any _ (csum_lt b) _).mono ?_
  rintro _ w1 ⟨v1, rfl, ho1, hv1, hb1⟩
  obtain ⟨g1, c1, rfl, ho1b⟩ := ho1
  have HO1 : Hid (Own w1 (.slice (some ⟨g1, 0, none⟩) (cbytes (csum b)).length c1) (cbytes (csum b))) := ⟨g1, c1, rfl, ho1b⟩
  clear ho1b
  have HB1 := Lib.hid hb1
  clear hb1
  go_wp2_with fail
  refine (join_two w1.heap.size 0 2 _ _ b (cbytes (csum b)) _ (by omega) ((Blk.new w1 _ _).cell 0 (by rfl)) ((Blk.new w1 _ _).cell 1 (by rfl)) ((HR.out.below HB1.out).alloc _) (HO1.out.reads.alloc _) hb (bts_cbytes _) (by rw [cbytes_len]; omega)).mono ?_
  rintro _ w2 ⟨v2, rfl, ho2, hv2, hb2⟩
  go_wp2
  go_ret
  have hs := HB1.out.size
  refine ⟨_, rfl, ho2, fun g hg => ?_, HB1.out.trans (((Below.refl _ w1).alloc (Nat.le_refl _) _ |>.mono hs).trans (hb2.mono (by simp; omega)))⟩
  have := hv2 g hg
  simp at this
  omega

def opn (b : List Nat) : Bool := decide (4 ≤ b.length) && decide (cbytes (csum (b.take (b.length - 4))) = b.drop (b.length - 4))

set_option maxRecDepth 100000 in
set_option maxHeartbeats 1000000 in
theorem open_short (v : Value) (b : List Nat) (w : World) (h : Reads w 1 v b.length (u8s b)) (hb : Bts b) (hn : b.length < 4) :
    Calls Try.prog 12 #[v] w fun e w' => e = .returned (.tuple #[.slice none 0 0, .bool false]) ∧ ∃ m, w' = w.drewN m := by
  obtain ⟨A, c, rfl, -⟩ := h.val
  clear h
  generalize b.length = n at *
  rcases (by omega : n = 0 ∨ n = 1 ∨ n = 2 ∨ n = 3) with rfl | rfl | rfl | rfl
  all_goals
    go_enter Try.func12, Try.ntmps12
    go_wp2
    go_quiet (fail)
    obtain ⟨m1, rfl⟩ : ∃ m, m = nq := ⟨_, rfl⟩
    go_wp2
    go_ret2
    exact ⟨rfl, _, rfl⟩

theorem u8s_one (b : List Nat) : ∀ u ∈ u8s b, u.oneCell' = true := by intro u hu; simp only [u8s, List.mem_map] at hu; obtain ⟨x, _, rfl⟩ := hu; rfl
theorem Reads.front {w : World} {B o m k c : Nat} {b : List Nat} (h : Reads w 1 (.slice (some ⟨B, o, none⟩) (m + k) c) (m + k) (u8s b)) : Reads w 1 (.slice (some ⟨B, o, none⟩) m c) m (u8s (b.take m)) := by
  obtain ⟨hl, A, c', he, h1, h2, h3, h4, h5⟩ := h
  cases he
  rw [u8s_length] at hl
  refine ⟨by rw [u8s_length, List.length_take]; omega, _, c, rfl, by omega, h2, (fun e => by cases e), (fun a ha h0 => h4 a ha (by omega)), fun j u hu => ?_⟩
  simp only [u8s, List.map_take] at hu
  rw [List.getElem?_take] at hu
  split at hu
  · exact h5 j u hu
  · cases hu
theorem Reads.back {w : World} {B o m k c : Nat} {b : List Nat} (h : Reads w 1 (.slice (some ⟨B, o, none⟩) (m + k) c) (m + k) (u8s b)) (hk : 0 < k) : Reads w 1 (.slice (some ⟨B, o + m, none⟩) k (c - m)) k (u8s (b.drop m)) := by
  obtain ⟨hl, A, c', he, h1, h2, h3, h4, h5⟩ := h
  cases he
  rw [u8s_length] at hl
  refine ⟨by rw [u8s_length, List.length_drop]; omega, _, c - m, rfl, by omega, by omega, (fun e => by cases e), (fun a ha h0 => by cases ha; exact h4 ⟨B, o, none⟩ rfl (by omega)), fun j u hu => ?_⟩
  simp only [u8s, List.map_drop] at hu
  rw [List.getElem?_drop] at hu
  obtain ⟨a, ha, hc⟩ := h5 (m + j) u hu
  cases ha
  exact ⟨_, rfl, by rw [Nat.add_assoc]; exact hc⟩

set_option maxRecDepth 100000 in
set_option maxHeartbeats 1000000 in
theorem open_long (B o m c : Nat) (b : List Nat) (w : World) (h : Reads w 1 (.slice (some ⟨B, o, none⟩) (m + 4) c) (m + 4) (u8s b)) (hb : Bts b) (hm : m ≤ 10000000) :
    Calls Try.prog 12 #[.slice (some ⟨B, o, none⟩) (m + 4) c] w fun e w' => Below w.heap.size w w' ∧
      if cbytes (csum (b.take m)) = b.drop m then ∃ A c, e = .returned (.tuple #[.slice A m c, .bool true]) ∧ w'.ownsRow w.heap.size 5 1 (.slice A m c) m (u8s (b.take m)) ∧ (.slice A m c : Value) ≠ .slice none 0 0
      else e = .returned (.tuple #[.slice none 0 0, .bool false]) := by
  have H1 := Lib.hid h.front
  have H2 := Lib.hid (h.back (by omega))
  have hl : b.length = m + 4 := by have := h.len; rw [u8s_length] at this; omega
  obtain ⟨A', c', he, hnc, hcm, -⟩ := h.val
  cases he
  have l1 : (b.take m).length = m := by rw [List.length_take]; omega
  have l2 : (b.drop m).length = 4 := by rw [List.length_drop]; omega
  have L1 := Lib.hid l1
  have L2 := Lib.hid l2
  have HL := Lib.hid hl
  clear h l1 l2 hl
  have HS1 := Lib.hid (fun W (hW : Reads W 1 (.slice (some ⟨B, o, none⟩) m c) m (u8s (b.take m))) => sum_any _ (b.take m) W (by rw [L1.out]; exact hW) (bts_take hb m))
  have he1 := fun W v1 (h1 : Reads W 1 v1 4 (u8s (cbytes (csum (b.take m))))) (hW : Reads W 1 (.slice (some ⟨B, o + m, none⟩) 4 (c - m)) 4 (u8s (b.drop m))) => equal_any v1 _ (cbytes (csum (b.take m))) (b.drop m) W h1 (by rw [L2.out]; exact hW) (bts_cbytes _) (bts_drop hb m)
  have i1 : (0 : Int) ≤ (m : Int) := by omega
  have i2 : (m : Int) ≤ (m : Int) + 4 := by omega
  have i3 : (m : Int) ≤ (c : Int) := by omega
  have i4 : ¬ (c = m) := by omega
  have i5 : decide ((m : Int) < 0) = false := by simp
  have i6 : ¬ ((m : Int) < 0) := by omega
  have ek : ∀ w3 : World, Below w.drew.heap.size w.drew w3 → Below w.heap.size w w3 := fun w3 h => ⟨h.os, h.tape, h.output, h.size, h.block⟩
  have EK := Lib.hid ek
  by_cases hq : cbytes (csum (b.take m)) = b.drop m
  · have hd : decide (cbytes (csum (b.take m)) = b.drop m) = true := decide_eq_true hq
    rw [hd] at he1
    simp only [if_pos hq]
    have HE1 := Lib.hid he1
    clear he1 hd hq ek
    go_enter Try.func12, Try.ntmps12
    go_wp2_with fail
    go_region_held3 (fun _ => True) (trivial)
      (first
        | (go_at_call 8; refine (HS1.out _ (H1.out.keep (S := fun _ => False) (by first | exact Keep.refl _ _ | exact (Keep.refl _ _).drew | exact (Keep.refl _ _).drewN _) (fun _ _ _ h => h))).mono ?_; rintro e w2 ⟨rfl, rfl⟩)
        | (go_at_call 17; refine (tail_any _ (csum_lt _) _).mono ?_; rintro e w3 ⟨v3, rfl, ho3, hv3, hb3⟩; have HO3 := Lib.hid ho3; obtain ⟨g3, c3, hv3e, -⟩ := ho3; subst hv3e; have HB3 := Lib.hid hb3; clear hb3 hv3)
        | (go_at_call 18; refine (HE1.out _ _ HO3.out.reads ((H2.out.keep (S := fun _ => False) (by first | exact Keep.refl _ _ | exact (Keep.refl _ _).drew | exact (Keep.refl _ _).drewN _) (fun _ _ _ h => h)).below HB3.out)).mono ?_; rintro e w4 ⟨rfl, rfl⟩))
    go_wp2_with fail
    refine (clone_bytes _ m (u8s (b.take m)) _ ((H1.out.below (EK.out _ HB3.out))) (by omega) (u8s_one _)).mono ?_
    rintro e w5 ⟨A5, c5, rfl, ho5, hb5, hn5⟩
    have HO5 := Lib.hid ho5
    have HN5 := Lib.hid hn5
    have hb6 := (EK.out _ HB3.out).trans (hb5.mono (EK.out _ HB3.out).size)
    have hs5 := (EK.out _ HB3.out).size
    clear ho5 hn5 hb5
    go_wp2
    go_ret2
    exact ⟨hb6, A5, c5, rfl, ownsRow_base HO5.out hs5, fun e => by have := HN5.out.2 e; cases this⟩
  · have hd : decide (cbytes (csum (b.take m)) = b.drop m) = false := decide_eq_false hq
    rw [hd] at he1
    simp only [if_neg hq]
    have HE1 := Lib.hid he1
    clear he1 hd hq ek
    go_enter Try.func12, Try.ntmps12
    go_wp2_with fail
    go_region_held3 (fun _ => True) (trivial)
      (first
        | (go_at_call 8; refine (HS1.out _ (H1.out.keep (S := fun _ => False) (by first | exact Keep.refl _ _ | exact (Keep.refl _ _).drew | exact (Keep.refl _ _).drewN _) (fun _ _ _ h => h))).mono ?_; rintro e w2 ⟨rfl, rfl⟩)
        | (go_at_call 17; refine (tail_any _ (csum_lt _) _).mono ?_; rintro e w3 ⟨v3, rfl, ho3, hv3, hb3⟩; have HO3 := Lib.hid ho3; obtain ⟨g3, c3, hv3e, -⟩ := ho3; subst hv3e; have HB3 := Lib.hid hb3; clear hb3 hv3)
        | (go_at_call 18; refine (HE1.out _ _ HO3.out.reads ((H2.out.keep (S := fun _ => False) (by first | exact Keep.refl _ _ | exact (Keep.refl _ _).drew | exact (Keep.refl _ _).drewN _) (fun _ _ _ h => h)).below HB3.out)).mono ?_; rintro e w4 ⟨rfl, rfl⟩))
    go_wp2
    go_ret2
    exact ⟨EK.out _ HB3.out, rfl⟩

theorem open_yes (v : Value) (b : List Nat) (w : World) (h : Reads w 1 v b.length (u8s b)) (hb : Bts b) (hn : b.length ≤ 10000000) (ho : opn b = true) :
    Calls Try.prog 12 #[v] w fun e w' => ∃ A c, e = .returned (.tuple #[.slice A (b.length - 4) c, .bool true]) ∧ w'.ownsRow w.heap.size 5 1 (.slice A (b.length - 4) c) (b.length - 4) (u8s (b.take (b.length - 4))) ∧ (.slice A (b.length - 4) c : Value) ≠ .slice none 0 0 ∧ Below w.heap.size w w' := by
  simp only [opn, Bool.and_eq_true, decide_eq_true_eq] at ho
  obtain ⟨B, o, c, rfl, -⟩ := h.at 0 _ (u8s_at (by omega))
  obtain ⟨m, hm⟩ : ∃ m, b.length = m + 4 := ⟨b.length - 4, by omega⟩
  rw [hm] at h hn ho ⊢
  rw [show m + 4 - 4 = m by omega] at *
  refine (open_long B o m c b w h hb (by omega)).mono ?_
  rintro e w' ⟨hb, h2⟩
  rw [if_pos ho.2] at h2
  obtain ⟨A, c, rfl, h3, h4⟩ := h2
  exact ⟨A, c, rfl, h3, h4, hb⟩
theorem open_no (v : Value) (b : List Nat) (w : World) (h : Reads w 1 v b.length (u8s b)) (hb : Bts b) (hn : b.length ≤ 10000000) (ho : opn b = false) :
    Calls Try.prog 12 #[v] w fun e w' => e = .returned (.tuple #[.slice none 0 0, .bool false]) ∧ Below w.heap.size w w' := by
  by_cases h4 : b.length < 4
  · refine (open_short v b w h hb h4).mono ?_
    rintro e w' ⟨rfl, m, rfl⟩
    exact ⟨rfl, below_drewN (Below.refl _ _) m⟩
  · simp only [opn, Bool.and_eq_false_iff, decide_eq_false_iff_not] at ho
    obtain ⟨B, o, c, rfl, -⟩ := h.at 0 _ (u8s_at (by omega))
    obtain ⟨m, hm⟩ : ∃ m, b.length = m + 4 := ⟨b.length - 4, by omega⟩
    rw [hm] at h hn ho h4 ⊢
    rw [show m + 4 - 4 = m by omega] at *
    refine (open_long B o m c b w h hb (by omega)).mono ?_
    rintro e w' ⟨hb, h2⟩
    rw [if_neg (ho.resolve_left (by omega))] at h2
    exact ⟨h2, hb⟩

end Go.Proofs.Ytkencaebmgiakaa
