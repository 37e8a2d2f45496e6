/- simnet: right, Waiting, what Send refuses. -/
import Derived.Test.YtlodiibmofeikaaQCC
namespace Go.Proofs.Ytlodiibmofeikaa
open Go.RowKit
set_option linter.unusedVariables false
set_option linter.unusedSimpArgs false

set_option maxRecDepth 100000 in
set_option maxHeartbeats 1000000 in
theorem right_yes (rc delay room j lv : Int) (w : World) (h : CfgOk rc delay room j lv) :
    Calls Try.prog 13 #[.agg #[.int .i64 rc, .int .i64 delay, .int .i64 room, .int .i64 j, .int .i64 lv]] w fun e w' => e = .returned (.bool true) ∧ Below w.heap.size w w' := by
  obtain ⟨⟨r1, r2⟩, ⟨d1, d2⟩, ⟨m1, m2⟩, ⟨j1, j2⟩, ⟨l1, l2⟩⟩ := h
  have HB := Lib.hid ((Below.refl _ w).alloc (Nat.le_refl _) (.cells #[.int .i64 rc, .int .i64 delay, .int .i64 room, .int .i64 j, .int .i64 lv] 30))
  obtain ⟨y0, y1, y2, y3, y4⟩ := blk5' (Blk.new w #[.int .i64 rc, .int .i64 delay, .int .i64 room, .int .i64 j, .int .i64 lv] 30)
  go_enter Try.func13, Try.ntmps13
  go_wp2
  go_ret
  exact ⟨rfl, HB.out⟩
section
variable {w : World} {col : Nat → Nat} {nb : Nat} {gd : GD} {delay room : Int} {pv : Value} {P : List PD} {fv : Value} {F : List FD} {used : Nat} {s : StN}
theorem waiting_yes (h : NetAt w col nb gd delay room pv P fv F used s) (r : Nat) (p : PD) (hp : P[r]? = some p) (hr : r < gd.l.length) (hl : P.length ≤ 1000) :
    Calls Try.prog 16 #[.pointer (some ⟨nb, 0, none⟩), .int .i64 (r : Int)] w fun e w' => e = .returned (.int .i64 p.l.length) ∧ w = w' := by
  obtain ⟨n0, n1, n2, -⟩ := blk11 h.str
  have hh := net_has h (r : Int)
  rw [show hasB gd.l.length (r : Int) = true from decide_eq_true ⟨by omega, by omega⟩] at hh
  have HH := Lib.hid hh
  have HLN := Lib.hid (len_any p.b p.v p.l room w (h.pipes r p hp))
  obtain ⟨pA, pc, rfl⟩ := ownsRow_slice h.row
  have hlt : r < P.length := (List.getElem?_eq_some_iff.1 hp).1
  obtain ⟨b, o, c, he, hcc⟩ := (Reads.of_owns h.row).at r (pipeC p) (by rw [List.getElem?_map, hp]; rfl)
  cases he
  have i1 : (0 : Int) ≤ (r : Int) := by omega
  have i2 : (r : Int) < (P.length : Int) := by omega
  replace hcc : w.cell? ⟨b, o + r, none⟩ = some (.pointer (some ⟨p.b, 0, none⟩)) := hcc
  clear h hh hp hr
  go_enter Try.func16, Try.ntmps16
  go_wp2_with fail
  refine HH.out.mono ?_
  rintro e w2 ⟨rfl, rfl⟩
  go_wp2_with fail
  refine HLN.out.mono ?_
  rintro e w2 ⟨rfl, rfl⟩
  go_wp2
  go_ret
  exact ⟨rfl, rfl⟩
theorem send_range (layer now : Int) (A : Option Addr) (n c : Nat) (hb : layer < 0 ∨ 7 < layer) (w : World) (nb : Nat) :
    Calls Try.prog 10 #[.pointer (some ⟨nb, 0, none⟩), .int .i64 layer, .slice A n c, .int .i64 now] w fun e w' => e = .returned (.tuple #[.int .i64 0, .int .i64 11]) ∧ w = w' := by
  rcases (by omega : layer < 0 ∨ (0 ≤ layer ∧ 7 < layer)) with g | ⟨g, g'⟩
  all_goals
    clear hb
    have g8 : layer < 0 ∨ 8 ≤ layer := by omega
    go_enter Try.func10, Try.ntmps10
    go_wp2
    exact bodyPost_ret (v := .tuple #[.int .i64 0, .int .i64 11]) (by simp [results, Try.results10, go_sem]) rfl ⟨rfl, rfl⟩
end
end Go.Proofs.Ytlodiibmofeikaa
