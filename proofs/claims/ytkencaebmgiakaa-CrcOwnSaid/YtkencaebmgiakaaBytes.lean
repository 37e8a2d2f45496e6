/- bytes: Clone, Equal, Join of two parts; strings of bytes. -/
import Derived.Test.YtkencaebmgiakaaCrc
import Derived.Test.YtkencaebmgiakaaApp
import Derived.WalkSpells
import Derived.Lib.SliceRun
import Derived.Ground.SlbNamesProg
import Derived.Ground.NamesProg
import Derived.Shelf.Lay
import Derived.Shelf.Bytes.SlJoin
import Derived.Shelf.Bytes.SlEqualAll
namespace Go.Proofs
open Go.Shelf
shelf_lay SlLaysJ.n14 Slb 14 at Try as Try.laysJoin
shelf_lay Lays.nb115 Nm 115 at Try as Try.laysEqual
end Go.Proofs
namespace Go.Proofs.Ytkencaebmgiakaa
open Go.RowKit
set_option linter.unusedVariables false
set_option linter.unusedSimpArgs false

theorem info_bytes : (Try.prog.info? 5).map (fun i => (i.zero, i.size, i.bytes)) = some (some (.int .u8 0), 1, 1) := by kernel_rfl

set_option maxRecDepth 100000 in
set_option maxHeartbeats 1000000 in
/-- slices.Clone: new cells, the same as the old ones; nil of nil. -/
theorem clone_bytes (v : Value) (n : Nat) (xs : List Value) (w : World) (h : Reads w 1 v n xs) (hn : n * 1 ≤ 140737488351232) (h1 : ∀ u ∈ xs, u.oneCell' = true) :
    Calls Try.prog 19 #[v] w fun e w' => ∃ A c, e = .returned (.slice A n c) ∧ w'.ownsRow w.heap.size 5 1 (.slice A n c) n xs ∧ Below w.heap.size w w' ∧ (v = .slice none 0 0 ↔ (.slice A n c : Value) = .slice none 0 0) := by
  have hR := h
  obtain ⟨hl, A, c, rfl, h2, h3, h4, h5, h6⟩ := h
  obtain ⟨i0, hi, hz0, hz1, hz2⟩ := info_parts info_bytes
  have q22 : ∀ (w : World) (a : Option Addr) (n c n' c' : Nat), (binOp .eql 22 (.slice a n c) (.slice none n' c')).run Try.prog w = .ok (.bool a.isNone) w := fun w a n c n' c' => Lib.run_eql_slice_nil w _ _ a n c n' c' Try.underlying22
  have u22 : ∀ w, Sem.run Try.prog (underlying 22) w = .ok (TypeDesc.slice 5) w := run_underlying Try.underlying22
  cases A with
  | none =>
    obtain ⟨rfl, rfl⟩ := h4 rfl
    have : xs = [] := List.eq_nil_of_length_eq_zero (by simpa using hl)
    subst this
    go_enter Try.func19, Try.ntmps19
    go_wp2
    go_ret
    exact ⟨_, _, rfl, World.ownsRow_nil _ _ _ _, Below.refl _ _, by simp⟩
  | some a =>
    have hc : ∀ j u, xs[j]? = some u → w.cell? (a.add j) = some u := fun j u hu => by
      obtain ⟨b, o, c', he, hc⟩ := hR.at j u hu
      cases he
      have e : (⟨b, o, none⟩ : Addr).add j = ⟨b, o + j, none⟩ := by unfold Addr.add; split <;> simp_all
      rw [e]; exact hc
    have HC := Lib.hid hc
    have HL := Lib.hid hl
    clear hc hl h4 h5 h6 hR
    go_enter Try.func19, Try.ntmps19
    go_wp2_with (at_builtin; refine wpList_append_own _ rfl _ _ 22 rfl w.heap.size 5 i0 (.int .u8 0) 1 1 Try.underlying22 hi hz0 hz1 hz2 rfl (by decide) _ _ _ rfl (World.ownsRow_made w #[] 0 (Nat.le_refl _) (Nat.zero_le _) rfl) a n c xs rfl ?qc1 ?qc2 ?qc3 ?qc4 ?qc5 ?qc6 ?_)
    case qc1 => simpa using HL.out
    case qc2 =>
      intro j u hj
      first | exact HC.out j u hj | exact Lib.cell?_alloc_some _ (HC.out j u hj)
    case qc3 => exact h1
    case qc4 => have := h3; omega
    case qc5 => omega
    try (case qc6 => simp)
    intro v' w1 hown hgrow hnil
    go_wp2
    go_ret
    obtain ⟨A', c', rfl⟩ := ownsRow_slice hown
    refine ⟨A', c', by simp, by simpa using hown, ((Below.refl _ w).alloc (Nat.le_refl _) _).grown hgrow (by simp) (by intro k hk; simp [Value.ownBlock] at hk; omega), ?_⟩
    exact ⟨fun h => by simp at h, fun h => (hnil (by simpa using h)).elim⟩

/-- a string of bytes -/
def ints (b : List Nat) : List Int := b.map fun (c : Nat) => (c : Int)
def bstr (b : List Nat) : ByteArray := strOfNums (ints b)
theorem u8s_ints (b : List Nat) : u8s b = (ints b).map (Value.int .u8) := by simp [u8s, ints]
theorem ints_length (b : List Nat) : (ints b).length = b.length := by simp [ints]
theorem bytesOf_ints (b : List Nat) : Lib.bytesOf (ints b) = b.map UInt8.ofNat := by simp [Lib.bytesOf, ints]
theorem ofNat_inj {a b : List Nat} (ha : Bts a) (hb : Bts b) (h : a.map UInt8.ofNat = b.map UInt8.ofNat) : a = b := by
  have h2 := congrArg (List.map UInt8.toNat) h
  rw [List.map_map, List.map_map] at h2
  have e : ∀ l : List Nat, Bts l → l.map (UInt8.toNat ∘ UInt8.ofNat) = l := by
    intro l hl
    conv => rhs; rw [← List.map_id l]
    apply List.map_congr_left
    intro x hx
    have := hl x hx
    simp
    omega
  rwa [e a ha, e b hb] at h2
theorem bstr_toList (b : List Nat) : (bstr b).toList = b.map UInt8.ofNat := by unfold bstr; rw [Lib.strOfNums_toList, bytesOf_ints]
theorem bstr_data (b : List Nat) : (bstr b).data.toList = b.map UInt8.ofNat := by rw [← bstr_toList]; exact (Lib.toList_data _).symm
theorem bstr_inj {a b : List Nat} (ha : Bts a) (hb : Bts b) : bstr a = bstr b ↔ a = b :=
  ⟨fun h => ofNat_inj ha hb (by rw [← bstr_data, ← bstr_data, h]), fun h => by rw [h]⟩
theorem bstr_append (a b : List Nat) : bstr (a ++ b) = bstr a ++ bstr b := by
  have h : (bstr (a ++ b)).data.toList = (bstr a ++ bstr b).data.toList := by
    rw [bstr_data, ByteArray.data_append, Array.toList_append, bstr_data, bstr_data, List.map_append]
  exact ByteArray.ext (Array.toList_inj.1 h)
theorem bstr_eq {a b : List Nat} (ha : Bts a) (hb : Bts b) : ((bstr a).toList == (bstr b).toList) = decide (a = b) := by
  rw [bstr_toList, bstr_toList]
  by_cases h : a = b
  · subst h; simp
  · have : a.map UInt8.ofNat ≠ b.map UInt8.ofNat := fun e => h (ofNat_inj ha hb e)
    simp [h, this]
theorem bytesEq {a b : List Nat} (ha : Bts a) (hb : Bts b) : (Lib.bytesOf (ints a) == Lib.bytesOf (ints b)) = decide (a = b) := by
  rw [bytesOf_ints, bytesOf_ints]
  by_cases h : a = b
  · subst h; simp
  · have : a.map UInt8.ofNat ≠ b.map UInt8.ofNat := fun e => h (ofNat_inj ha hb e)
    simp [h, this]

theorem Reads.bytesIn {w : World} {A : Option Addr} {n c : Nat} {b : List Nat} (h : Reads w 1 (.slice A n c) n (u8s b)) : Lib.BytesIn w A n (ints b) := by
  intro hn
  have hl : b.length = n := by have := h.len; rw [u8s_length] at this; omega
  obtain ⟨B, o, c', he, -⟩ := h.at 0 _ (u8s_at (by omega))
  cases he
  refine ⟨B, o, rfl, fun i hi => ?_⟩
  obtain ⟨B', o', c', he, hc⟩ := h.at i _ (u8s_at (by omega : i < b.length))
  cases he
  rw [hc]
  simp [ints, show i < b.length by omega]
/-- string(b) -/
theorem conv_str {w : World} {A : Option Addr} {n c : Nat} {b : List Nat} (h : Reads w 1 (.slice A n c) n (u8s b)) :
    (convert 22 9 (.slice A n c)).run Try.prog w = .ok (.string (bstr b)) w :=
  h.bytesIn.convert (by have := h.len; rw [u8s_length] at this; rw [ints_length]; omega) c _ _ _ Try.underlying22 Try.underlying5 Try.underlying9

theorem equal_any (v1 v2 : Value) (a b : List Nat) (w : World) (h1 : Reads w 1 v1 a.length (u8s a)) (h2 : Reads w 1 v2 b.length (u8s b)) (ha : Bts a) (hb : Bts b) :
    Calls Try.prog 18 #[v1, v2] w fun e w' => e = .returned (.bool (decide (a = b))) ∧ w' = w := by
  obtain ⟨A, c, rfl, -⟩ := h1.val
  obtain ⟨A', c', rfl, -⟩ := h2.val
  rw [← bytesEq ha hb]
  exact Any.bytes_Equal_all Try.laysEqual A A' a.length c b.length c' (ints a) (ints b) w (ints_length a) (ints_length b) h1.bytesIn h2.bytesIn

/-- a slice of bytes at the head of a block, none of whose cells is frozen -/
def Own (w : World) (v : Value) (b : List Nat) : Prop :=
  ∃ g c, v = .slice (some ⟨g, 0, none⟩) b.length c ∧ (0 < b.length → g < w.heap.size) ∧ b.length ≤ c ∧ c ≤ maxLen ∧ (∀ i, i < b.length → w.cell? ⟨g, i, none⟩ = some (.int .u8 ((b.getD i 0 : Nat) : Int))) ∧ ∀ i, i < b.length → w.frozen? ⟨g, i, none⟩ = false
theorem Own.reads {w : World} {v : Value} {b : List Nat} (h : Own w v b) : Reads w 1 v b.length (u8s b) := by
  obtain ⟨g, c, rfl, hg, hc, hm, h1, h2⟩ := h
  refine ⟨by rw [u8s_length]; omega, _, c, rfl, hc, hm, (fun e => by cases e), (fun a ha h0 => by cases ha; exact ⟨rfl, hg h0⟩), fun j u hu => ⟨_, rfl, ?_⟩⟩
  have hj : j < b.length := by rw [← u8s_length]; exact (List.getElem?_eq_some_iff.1 hu).1
  rw [u8s_at hj] at hu
  rw [Nat.zero_add, h1 j hj]; exact hu
theorem Own.keep {S : Nat → Prop} {w w' : World} {v : Value} {b : List Nat} (h : Own w v b) (hk : Keep S w w') (hn : ∀ g, v.ownBlock = some g → ¬ S g) : Own w' v b := by
  obtain ⟨g, c, rfl, hg, hc, hm, h1, h2⟩ := h
  refine ⟨g, c, rfl, fun h0 => Nat.lt_of_lt_of_le (hg h0) hk.size, hc, hm, fun i hi => ?_, fun i hi => ?_⟩
  · exact (hk.cell (p := ⟨g, i, none⟩) (hg (by omega)) (hn g rfl)).trans (h1 i hi)
  · exact (hk.frozen (p := ⟨g, i, none⟩) (hg (by omega)) (hn g rfl)).trans (h2 i hi)
theorem Own.below {w w' : World} {v : Value} {b : List Nat} (h : Own w v b) (hk : Below w.heap.size w w') : Own w' v b := h.keep (Keep.none hk) (fun _ _ => id)
theorem Own.of_owns {w : World} {base : Nat} {v : Value} {b : List Nat} (h : w.ownsRow base 5 1 v b.length (u8s b)) (hv : v ≠ .slice none 0 0) : Own w v b := by
  have hR := Reads.of_owns h
  rcases h.2 with ⟨h1, _⟩ | ⟨g, cap, cur, rfl, hg, hh, h1, h2, h3, h4⟩
  · exact absurd h1 hv
  · refine ⟨g, cap, rfl, fun _ => (Array.getElem?_eq_some_iff.1 hh).1, h1, h2, fun i hi => ?_, fun i _ => ownsRow_frozen h i⟩
    obtain ⟨B, o, c', he, hc⟩ := hR.at i _ (u8s_at hi)
    cases he
    rwa [Nat.zero_add] at hc

theorem bytes_u8 {b : List Nat} (hb : Bts b) (i : Nat) (x : UInt8) (h : (b.map UInt8.ofNat)[i]? = some x) : (u8s b)[i]? = some (.int .u8 (x.toNat : Int)) := by
  rw [List.getElem?_map] at h
  obtain ⟨c, hc, rfl⟩ := Option.map_eq_some_iff.1 h
  have := hb c (List.mem_of_getElem? hc)
  simp only [u8s, List.getElem?_map, hc, Option.map_some]
  congr 2
  simp
  omega
theorem Reads.holds {w : World} {v : Value} {b : List Nat} (h : Reads w 1 v b.length (u8s b)) (hb : Bts b) : Lib.HoldsBytes w v (b.map UInt8.ofNat) := by
  have hR := h
  obtain ⟨hl, A, c, rfl, -, -, hA, -⟩ := h
  refine ⟨A, c, by simp, fun e => ?_, fun a ha i x hx => ?_⟩
  · have := (hA e).1
    rw [List.eq_nil_of_length_eq_zero this]; rfl
  · subst ha
    exact hR.news i _ (bytes_u8 hb i x hx)

/-- bytes.Join of two parts, none between them -/
theorem join_two (B o : Nat) (cap : Nat) (v1 v2 : Value) (a b : List Nat) (w : World) (hcap : 2 ≤ cap) (h0 : w.cell? ⟨B, o, none⟩ = some v1) (h1 : w.cell? ⟨B, o + 1, none⟩ = some v2)
    (r1 : Reads w 1 v1 a.length (u8s a)) (r2 : Reads w 1 v2 b.length (u8s b)) (ha : Bts a) (hb : Bts b) (hn : a.length + b.length ≤ 100000000) :
    Calls Try.prog 16 #[.slice (some ⟨B, o, none⟩) 2 cap, .slice none 0 0] w fun e w' => ∃ v', e = .returned v' ∧ Own w' v' (a ++ b) ∧ (∀ g, v'.ownBlock = some g → w.heap.size ≤ g) ∧ Below w.heap.size w w' := by
  refine (Any.bytes_Join_many Try.laysJoin B o 2 cap [v1, v2] [a.map UInt8.ofNat, b.map UInt8.ofNat] (.slice none 0 0) [] w rfl (by omega) ?_ hcap ?_ (by omega) ?_).mono ?_
  · refine ⟨rfl, fun i v hi => ?_, fun i v l hv hl => ?_⟩
    · have e : (⟨B, o, none⟩ : Addr).add i = ⟨B, o + i, none⟩ := by unfold Addr.add; split <;> simp_all
      rw [e]
      match i with
      | 0 => simp at hi; subst hi; exact h0
      | 1 => simp at hi; subst hi; exact h1
      | i + 2 => simp at hi
    · match i with
      | 0 => simp at hv hl; subst hv hl; exact r1.holds ha
      | 1 => simp at hv hl; subst hv hl; exact r2.holds hb
      | i + 2 => simp at hv
  · exact ⟨none, 0, rfl, fun _ => rfl, fun a ha => by cases ha⟩
  · simp [Lib.lens]; omega
  · rintro e w' ⟨v', rfl, hf, hbl⟩
    have ej : Lib.join [a.map UInt8.ofNat, b.map UInt8.ofNat] [] = (a ++ b).map UInt8.ofNat := by simp [Lib.join, List.intercalate]
    rw [ej] at hf
    obtain ⟨g, c, zs, rfl, hg, hlc, hcm, hzl, hz, hzb, hc, hfr⟩ := hf
    rw [List.length_map] at *
    have hbt : Bts (a ++ b) := fun c hc => by rcases List.mem_append.1 hc with h | h; exact ha c h; exact hb c h
    refine ⟨_, rfl, ⟨g, c, rfl, ?_, hlc, hcm, fun i hi => ?_, fun i hi => hfr i (by omega)⟩, fun g' hg' => ?_, hbl⟩
    · intro h0; exact World.block_lt_of_cell? w' _ (hc 0 (by omega))
    · rw [hc i (by omega)]
      have h2 := congrArg (fun l => l[i]?) hzb
      have hi' : i < zs.length := by omega
      have hi2 : i < (a ++ b).length := hi
      simp only [Lib.bytesOf, List.getElem?_map, List.getElem?_take, hi2, if_true, List.getElem?_eq_getElem hi', List.getElem?_eq_getElem hi2, Option.map_some, Option.some.injEq] at h2
      have h3 := congrArg UInt8.toNat h2
      have h4 := hz zs[i] (List.getElem_mem hi')
      have h5 := hbt (a ++ b)[i] (List.getElem_mem hi2)
      simp at h3
      have e1 : zs.getD i 0 = zs[i] := by simp [hi']
      have e2 : (a ++ b).getD i 0 = (a ++ b)[i] := by simp only [List.getD_eq_getElem?_getD, List.getElem?_eq_getElem hi2, Option.getD_some]
      rw [e1, e2]
      congr 2
      omega
    · simp [Value.ownBlock] at hg'; omega
end Go.Proofs.Ytkencaebmgiakaa
