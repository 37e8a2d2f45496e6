/- What the rows hand over, in the words of Mem. -/
import Derived.Test.YtlodiibmofeikaaMem
import Derived.ProofKit
import Derived.OpenShut
import Derived.SizedLaws
import Derived.ChangeSlices
namespace Go.Proofs.Ytlodiibmofeikaa
open Go.ChangeShapes Go.WideShapes Go.ChangeAt Go.RowKit
set_option linter.unusedVariables false
set_option linter.unusedSimpArgs false

/-- A slice of whole numbers, as a row hands it over. -/
theorem read_ints {H : Type} {enc : TypeId × Value → H} {P : Program} {W : World} {spare : Nat → Bool} {held : Bool} {t e : TypeId} {k : IntKind} {a : Option Addr} {len cap : Nat} {d : DataW H} {ps : List MemPlace} {ts : List TypeId} {ds : List (DataW H)} {j : Nat}
    (hsz : (DataW.weightsEach P ts ds).all (· ≤ reachBytes) = true) (ht : ts[j]? = some t) (hd : ds[j]? = some d) (hu : P.underlying t = some (.slice e)) (he : P.underlying e = some (.int k)) (hc : P.cellsOf e = 1) {B : Nat} (hB : P.bytesOf e = B)
    (h : DataW.Trod enc P W 0 spare held t (.slice a len cap) d ps) : ∃ l : List Int, len = l.length ∧ Reads W 1 (.slice a l.length cap) l.length (l.map (Value.int k)) ∧ (∀ x ∈ l, (Lit.int k x).wf = true) ∧ l.length * B ≤ 140737488351232 := by
  obtain ⟨fuel, hf⟩ := h
  rcases open_ints hu he hc hf with ⟨hcs, _⟩ | ⟨x, l, c, zs, hcs, hbase, hl, hm, hz, hx, hcell, hwf⟩
  · simp [Value.cells] at hcs
    obtain ⟨rfl, rfl, rfl⟩ := hcs
    exact ⟨[], rfl, Reads.nil _ _, by simp, by simp⟩
  · simp [Value.cells] at hcs
    obtain ⟨rfl, rfl, rfl⟩ := hcs
    obtain ⟨hx, _⟩ := Prod.mk.inj hx
    subst hx
    have z := sized_slice hsz ht hd hu
    rw [hB] at z
    have hl2 : len ≤ zs.length := by
      rw [hz]
      split
      · exact hl
      · exact Nat.le_refl _
    have h1 : (lits (H := H) k (zs.take len)).length + (lits (H := H) k (zs.drop len)).length = zs.length := by
      simp [lits]
      omega
    rw [h1] at z
    have hcl : ∀ i, i < zs.length → x.spot = none ∧ x.block < W.heap.size ∧ W.cell? ⟨x.block, x.off + i, none⟩ = some (.int k (zs.getD i 0)) := by
      intro i hi
      have h0 := hcell 0 (by omega)
      have hlt := World.block_lt_of_cell? W _ h0
      have hsp : x.spot = none := by
        rw [show x.add 0 = x by simp [Addr.add]] at h0
        cases hs : x.spot with
        | none => rfl
        | some q =>
          exfalso
          unfold World.cell? at h0
          split at h0 <;> simp_all
      have := hcell i hi
      obtain ⟨b, o, sp⟩ := x
      simp only at hsp
      subst hsp
      have e : ∀ j, (⟨b, o, none⟩ : Addr).add j = ⟨b, o + j, none⟩ := by intro j; unfold Addr.add; split <;> simp_all
      rw [e] at this
      rw [e] at hlt
      exact ⟨rfl, hlt, this⟩
    refine ⟨zs.take len, by simp; omega, ?_, fun y hy => hwf y (List.mem_of_mem_take hy), ?_⟩
    · have hlen : (zs.take len).length = len := by simp; omega
      rw [hlen]
      refine ⟨by simp; omega, _, cap, rfl, hl, hm, fun ha => (by cases ha), fun a ha h0 => ?_, fun i u hu => ⟨_, rfl, ?_⟩⟩
      · cases ha
        exact ⟨(hcl 0 (by omega)).1, (hcl 0 (by omega)).2.1⟩
      · obtain ⟨hi, he⟩ := List.getElem?_eq_some_iff.1 hu
        simp at hi he
        rw [(hcl i (by omega)).2.2, ← he]
        simp [List.getD, show i < zs.length by omega]
    · have : (zs.take len).length = len := by simp; omega
      rw [this]
      exact Nat.le_trans (Nat.mul_le_mul_right _ hl2) z
end Go.Proofs.Ytlodiibmofeikaa
