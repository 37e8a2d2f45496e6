/- simnet: the law SimnetFates, whatever comes. -/
import Derived.Test.YtlodiibmofeikaaSimnetFates
import Derived.Test.YtlodiibmofeikaaNetRd
namespace Go.Proofs.Ytlodiibmofeikaa
open Go.ChangeShapes Go.WideShapes Go.ChangeAt Go.RowKit
set_option linter.unusedVariables false
set_option linter.unusedSimpArgs false

theorem rd_fate {H : Type} {enc : TypeId × Value → H} {w : World} : Rd enc Try.prog w 39 fateCells (fun _ => True) (fun _ => 0) :=
  (Rd.struct Try.underlying39 (by kernel_rfl) (RdF.cons (n1 := 1) (Rd.int Try.underlying3) rfl (by kernel_rfl) (RdF.cons (n1 := 1) (Rd.int Try.underlying3) rfl (by kernel_rfl) RdF.nil))).map
    (fun p => (⟨p.1, p.2.1⟩ : FD)) (fun _ => rfl) (fun _ _ => trivial) (fun p _ => Nat.zero_le _)
theorem rd_fates {H : Type} {enc : TypeId × Value → H} {w : World} : Rd enc Try.prog w 22 (fun p : Value × List FD => [p.1]) (fun p => Reads w 2 p.1 p.2.length (p.2.flatMap fateCells)) (fun _ => 0) :=
  (Rd.slice (s := 2) rd_fate fateCells_len (by omega) (by kernel_rfl) Try.underlying22).map id (fun _ => rfl) (fun p h => h.1) (fun p _ => Nat.zero_le _)
theorem u8_wf {n : Int} (h : (Lit.int .u8 n).wf = true) : 0 ≤ n ∧ n < 256 := by
  simp [Lit.wf] at h
  have h1 : IntKind.u8.min = 0 := rfl
  have h2 : IntKind.u8.max = 255 := rfl
  omega
set_option maxRecDepth 100000 in
set_option maxHeartbeats 1000000 in
theorem simnetFates_short (fn fc : Nat) (fA : Option Addr) (n : Nat) (A : Option Addr) (c : Nat) (w : World) (h : 100 < fn ∨ 300 < n) :
    Calls Try.prog 3 #[.slice fA fn fc, .slice A n c] w fun e w' => e = .returned (.bool true) ∧ Below w.heap.size w w' := by
  have HAW := Lib.hid awake_any
  have hbz : Below w.heap.size w (w.alloc (.cells #[.slice A n c] 23)) := (Below.refl _ w).alloc (Nat.le_refl _) _
  have HBZ := Lib.hid hbz
  clear hbz
  refine callsIn_wide.1 (callsIn_of_wp_marks (F := Fence.wide) (n := 9) Try.func3 rfl trivial ?_)
  rw [wpIn_wide]
  simp only [Try.ntmps3, List.size_toArray, List.length_cons, List.length_nil, Nat.reduceAdd, Nat.reduceSub, Array.replicate_succ, Array.replicate_zero, List.push_toArray, List.append_toArray, List.nil_append, List.cons_append]
  rcases (by omega : (100 : Int) < (fn : Int) ∨ (¬ (100 : Int) < (fn : Int) ∧ (300 : Int) < (n : Int))) with g | ⟨g, g'⟩
  all_goals
    clear h
    go_wp2_with fail
    refine (HAW.out _).mono ?_
    rintro e wA ⟨rfl, hbA⟩
    have HWA := Lib.hid (bmore HBZ.out hbA HBZ.out.size)
    clear hbA
    go_wp2
    refine ⟨.bool true, ?_, rfl, HWA.out⟩
    simp [results, Try.f3, go_sem]
theorem simnetFates_any (v : Value) (F : List FD) (A : Option Addr) (c : Nat) (bs : List Int) (w : World) (hF : Reads w 2 v F.length (F.flatMap fateCells)) (hx : Reads w 1 (.slice A bs.length c) bs.length (bs.map (Value.int .u8))) (hb : ∀ x ∈ bs, (Lit.int .u8 x).wf = true) :
    Calls Try.prog 3 #[v, .slice A bs.length c] w fun e w' => e = .returned (.bool true) ∧ Below w.heap.size w w' := by
  obtain ⟨fA, fc, rfl, -⟩ := hF.val
  by_cases h : 100 < F.length ∨ 300 < bs.length
  · exact simnetFates_short _ fc fA _ A c w h
  · exact simnetFates_main F fA fc bs A c w hF (by omega) (by omega) (fun x hx => u8_wf (hb x hx)) hx
end Go.Proofs.Ytlodiibmofeikaa
