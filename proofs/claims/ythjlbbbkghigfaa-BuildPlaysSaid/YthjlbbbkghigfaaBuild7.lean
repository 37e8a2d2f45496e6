/- build: Put of any; GiveUp; the law's awake. -/
import Derived.Test.YthjlbbbkghigfaaBuild6
import Derived.Lib.SlBytesConst
import Derived.Shelf.Bytes.SlEqualAll
namespace Go.Proofs.Ythjlbbbkghigfaa
open Go.RowKit
set_option linter.unusedVariables false
set_option linter.unusedSimpArgs false

/-- whatever is put -/
theorem put_any (x : BuS) (block tick : Int) (v : Value) (bs : List Int) (w : World) (h : BuAt w x) (hr : Reads w 1 v bs.length (bs.map (Value.int .u8))) (hva : ∀ g, v.ownBlock = some g → ¬ BuSet x g) (hll : x.log.length ≤ 100000) :
    Calls Try.prog 10 #[.pointer (some ⟨x.b, 0, none⟩), .int .i64 block, v, .int .i64 tick] w fun e w' => ∃ x', e = .returned (.int .i64 (putE x block tick bs.length)) ∧ PutR x block tick bs w w' x' := by
  by_cases hi : 0 ≤ block ∧ block < nb x.s x.k
  · obtain ⟨i, rfl⟩ : ∃ i : Nat, block = i := ⟨block.toNat, by omega⟩
    by_cases hE : putE x i tick bs.length = 0
    · rw [hE]
      refine (put_ok x i tick v bs w h hr hva (by omega) hll hE).mono ?_
      rintro e w' ⟨x', he, hp⟩
      exact ⟨x', he, hp⟩
    · exact put_err x i tick v bs w h hr (by omega) hE
  · exact put_out x block tick v bs w h hr hi
/-- there is a list for every set of blocks -/
theorem good_of (f : Int → Bool) : ∀ (N : Nat), N ≤ 16384 → ∃ S, StrI f true 0 N S
  | 0, _ => ⟨[], StrI.start f true 0⟩
  | N + 1, h => by
    obtain ⟨S, hS⟩ := good_of f N (by omega)
    cases hf : f N with
    | false => exact ⟨S, by simpa using hS.skip (by omega) (by rw [hf]; rfl)⟩
    | true =>
      by_cases hx : ∀ y ∈ S, y.2 ≠ (N : Int)
      · exact ⟨_, by simpa using hS.new (by omega) (by omega) (by omega) (by rw [hf]; rfl) hx⟩
      · rcases List.eq_nil_or_concat S with rfl | ⟨T, y, rfl⟩
        · exact absurd (fun y hy => by cases hy) hx
        · rw [List.concat_eq_append] at hS hx
          by_cases hy : y.2 = (N : Int)
          · exact ⟨_, by simpa using hS.on (by omega) (by omega) (by rw [hf]; rfl) hy⟩
          · exact absurd (hS.last hy) hx
theorem miss_all (x : BuS) (m : Int) (h : PlanOk x.s x.k x.n) : ∃ M, Good (-1) M ∧ ∀ i, cov M i = (uptoB x.n m (nb x.s x.k) i && !cov x.L i) := by
  obtain ⟨S, h1, h2⟩ := good_of (fun i => uptoB x.n m (nb x.s x.k) i && !cov x.L i) (nb x.s x.k) (nb_le h.1 h.2.1)
  refine ⟨S, h1, fun i => ?_⟩
  rw [h2]
  unfold uptoB inB
  by_cases e : 0 ≤ i ∧ i < nb x.s x.k
  · simp [e.1, e.2]
  · rw [decide_eq_false e]
    simp
    intros
    omega
/-- what GiveUp leaves -/
def GiveR (x : BuS) (M : List (Int × Int)) (w w' : World) (e : Ending) : Prop :=
  if x.ov || decide (M.length = 0) then e = .returned (.tuple #[.slice none 0 0, .int .i64 24]) ∧ Below w.heap.size w w'
  else ∃ A c, e = .returned (.tuple #[.slice A M.length c, .int .i64 0]) ∧ Hid (w'.ownsRow w.heap.size 46 2 (.slice A M.length c) M.length ((M.map (spanP x)).flatMap pairCells)) ∧ Hid (Keep (fun k => k = x.b) w w') ∧ Hid (BuAt w' { x with ov := true })
theorem BuAt.over {w : World} {x : BuS} (h : BuAt w x) : BuAt (w.setCell ⟨x.b, 4, none⟩ (.bool true)) { x with ov := true } := by
  have hd := h.dis
  have hk : Keep (fun k => k = x.b) w (w.setCell ⟨x.b, 4, none⟩ (.bool true)) := (Keep.refl (fun k => k = x.b) w).setCell (p := ⟨x.b, 4, none⟩) (.inl rfl) _
  exact ⟨h.ok, h.str.set' (by simp), Blk.keep h.plan hk (fun e => hd.bp e.symm), h.set.keep hk (fun e => hd.bh e.symm) (fun q hq e => (hd.hv q hq).1 e), h.good, ownsRow_keep h.txt hk (fun q hq e => (hd.tv q hq).1 e), ownsRow_keep h.log hk (fun q hq e => (hd.lv q hq).1 e)⟩
set_option maxRecDepth 100000 in
set_option maxHeartbeats 2000000 in
theorem giveup_any (x : BuS) (m : Int) (w : World) (h : BuAt w x) (M : List (Int × Int)) (hM : Good (-1) M) (hC : ∀ i, cov M i = (uptoB x.n m (nb x.s x.k) i && !cov x.L i)) :
    Calls Try.prog 40 #[.pointer (some ⟨x.b, 0, none⟩), .int .i64 m] w fun e w' => GiveR x M w w' e := by
  have HCM := Lib.hid (complete_any x m w h M hM hC)
  have HLK := Lib.hid (fun w h => lacking_any { x with ov := true } m w h M hM hC)
  have H := Lib.hid h
  obtain ⟨c0, c1, c2, c3, c4⟩ := h.c
  have c4f := h.str.frozen 4
  unfold GiveR
  obtain ⟨q, hq⟩ : ∃ q, q = M.length := ⟨_, rfl⟩
  have HQ := Lib.hid hq
  rw [← hq] at HCM HLK ⊢
  obtain ⟨ov, hov⟩ : ∃ ov, ov = x.ov := ⟨_, rfl⟩
  have HOV := Lib.hid hov
  rw [← hov] at c4 ⊢
  clear h hM hC hq hov
  cases ov with
  | true =>
    simp only [Bool.true_or, ↓reduceIte]
    go_enter Try.func40, Try.ntmps40
    go_wp2
    go_ret2
    all_goals exact ⟨rfl, (Below.refl _ w)⟩
  | false =>
    rw [Bool.false_or]
    by_cases hq0 : q = 0
    · rw [decide_eq_true hq0] at HCM
      simp only [decide_eq_true hq0, ↓reduceIte]
      go_enter Try.func40, Try.ntmps40
      go_wp2_with fail
      refine HCM.out.mono ?_
      rintro e w1 ⟨rfl, hb⟩
      have HB := Lib.hid hb
      clear hb
      go_wp2
      go_ret2
      all_goals exact ⟨rfl, HB.out⟩
    · rw [decide_eq_false hq0] at HCM
      simp only [decide_eq_false hq0, Bool.false_eq_true, ↓reduceIte]
      go_enter Try.func40, Try.ntmps40
      go_wp2_with fail
      refine HCM.out.mono ?_
      rintro e w1 ⟨rfl, hb⟩
      have HB := Lib.hid hb
      have H1 := Lib.hid (H.out.below hb)
      have d4 := H1.out.str.cell 4 rfl
      have d4f := H1.out.str.frozen 4
      have HLK1 := Lib.hid (HLK.out _ H1.out.over)
      clear hb
      go_wp2_with fail
      refine HLK1.out.mono ?_
      rintro e w2 ⟨A, c, rfl, ho, hb2⟩
      have HO := Lib.hid ho
      have HB2 := Lib.hid hb2
      have hsz : (w1.setCell ⟨x.b, 4, none⟩ (.bool true)).heap.size = w1.heap.size := by simp
      have HSZ := Lib.hid hsz
      clear ho hb2 hsz
      go_wp2
      go_ret2
      refine ⟨A, c, rfl, ?_, ?_, H1.out.over.below HB2.out⟩
      · exact ⟨HO.out.1, HO.out.2.imp id (fun ⟨g, cap, cur, h1, h2, h3⟩ => ⟨g, cap, cur, h1, (by have := HB.out.size; have := HSZ.out; omega), h3⟩)⟩
      · exact ((Keep.none HB.out).mono (fun _ _ h => h.elim)).trans (S' := fun k => k = x.b) (((Keep.refl (fun k => k = x.b) w1).setCell (p := ⟨x.b, 4, none⟩) (.inl rfl) _).trans ((Keep.none HB2.out).mono (fun _ _ h => h.elim)) (fun _ _ h => h)) (fun _ _ h => h)
theorem Reads.intsIn {w : World} {A : Option Addr} {n c : Nat} {l : List Int} (h : Reads w 1 (.slice A n c) n (l.map (Value.int .u8))) : Lib.BytesIn w A n l := by
  intro hn
  have hl : l.length = n := by have := h.len; rw [List.length_map] at this; omega
  obtain ⟨B, o, c', he, -⟩ := h.at 0 (.int .u8 (l[0]'(by omega))) (by rw [List.getElem?_map, List.getElem?_eq_getElem (by omega)]; rfl)
  cases he
  refine ⟨B, o, rfl, fun i hi => ?_⟩
  obtain ⟨B', o', c', he, hc⟩ := h.at i (.int .u8 (l[i]'(by omega))) (by rw [List.getElem?_map, List.getElem?_eq_getElem (by omega)]; rfl)
  cases he
  rw [hc]
  simp [show i < l.length by omega]
theorem conv_ints {w : World} {A : Option Addr} {n c : Nat} {l : List Int} (h : Reads w 1 (.slice A n c) n (l.map (Value.int .u8))) :
    (convert 32 9 (.slice A n c)).run Try.prog w = .ok (.string (strOfNums l)) w :=
  h.intsIn.convert (by have := h.len; rw [List.length_map] at this; omega) c _ _ _ Try.underlying32 Try.underlying5 Try.underlying9
theorem reads_newm (w : World) (cs : Array Value) (E : TypeId) (fr : Nat × Nat) (n : Nat) (h : cs.size = n) (hn : n ≤ 1000000) : Reads (w.alloc (.cells cs E fr)) 1 (.slice (some ⟨w.heap.size, 0, none⟩) n n) n cs.toList :=
  ⟨by simpa using h, _, n, rfl, Nat.le_refl _, by unfold maxLen; omega, fun ha => (by cases ha), fun a ha _ => by cases ha; exact ⟨rfl, by simp⟩, fun j u hu => ⟨_, rfl, by
    rw [Nat.zero_add, cell_of_row _ _ _ _ _ _ (heap_alloc_new w _)]; simpa using hu⟩⟩
theorem abe_str : strOfNums [97, 98, 0, 0, 101] = { data := #[97, 98, 0, 0, 101] } := by rfl
end Go.Proofs.Ythjlbbbkghigfaa
