/- simnet: Take's iterator is the pipe's; a receiver's level. -/
import Derived.Test.YtlodiibmofeikaaQCC
namespace Go.Proofs.Ytlodiibmofeikaa
open Go.RowKit
set_option linter.unusedVariables false
set_option linter.unusedSimpArgs false

section
variable {w : World} {col : Nat → Nat} {nb : Nat} {gd : GD} {delay room : Int} {pv : Value} {P : List PD} {fv : Value} {F : List FD} {used : Nat} {s : StN}
theorem netTake_yes (h : NetAt w col nb gd delay room pv P fv F used s) (r : Nat) (p : PD) (now : Int) (hp : P[r]? = some p) (hr : r < gd.l.length) (hl : P.length ≤ 1000) :
    Calls Try.prog 11 #[.pointer (some ⟨nb, 0, none⟩), .int .i64 (r : Int), .int .i64 now] w fun e w' => e = .returned (.func (.func 46) #[] #[.pointer (some ⟨w.heap.size, 0, none⟩), .pointer (some ⟨w.heap.size + 1, 0, none⟩)]) ∧
      Blk w' w.heap.size #[.pointer (some ⟨p.b, 0, none⟩)] 71 ∧ Blk w' (w.heap.size + 1) #[.int .i64 now] 3 ∧ Below w.heap.size w w' := by
  obtain ⟨n0, n1, n2, -⟩ := blk11 h.str
  have hh := net_has h (r : Int)
  rw [show hasB gd.l.length (r : Int) = true from decide_eq_true ⟨by omega, by omega⟩] at hh
  have HH := Lib.hid hh
  have HT := Lib.hid (take_any p.b now w)
  obtain ⟨pA, pc, rfl⟩ := ownsRow_slice h.row
  have hlt : r < P.length := (List.getElem?_eq_some_iff.1 hp).1
  obtain ⟨b, o, c, he, hcc⟩ := (Reads.of_owns h.row).at r (pipeC p) (by rw [List.getElem?_map, hp]; rfl)
  cases he
  have i1 : (0 : Int) ≤ (r : Int) := by omega
  have i2 : (r : Int) < (P.length : Int) := by omega
  replace hcc : w.cell? ⟨b, o + r, none⟩ = some (.pointer (some ⟨p.b, 0, none⟩)) := hcc
  clear h hh hp hr
  go_enter Try.func11, Try.ntmps11
  go_wp2_with fail
  refine HH.out.mono ?_
  rintro e w2 ⟨rfl, rfl⟩
  go_wp2_with fail
  refine HT.out.mono ?_
  rintro e w3 ⟨rfl, h1, h2, h3⟩
  have H3 := Lib.hid (And.intro h1 (And.intro h2 h3))
  clear h1 h2 h3
  go_wp2
  exact bodyPost_ret (v := .func (.func 46) #[] #[.pointer (some ⟨w.heap.size, 0, none⟩), .pointer (some ⟨w.heap.size + 1, 0, none⟩)]) (by simp [results, Try.results11, go_sem]) rfl ⟨rfl, H3.out⟩
/-- the group's levels have changed -/
theorem NetAt.ask {w' : World} {l' : List One} (h : NetAt w col nb gd delay room pv P fv F used s) (hg : GrpAt w' gd.b gd.g gd.c l' gd.j gd.lv) (hk : Keep (fun k => k = gd.g) w w') : NetAt w' col nb ⟨gd.b, gd.g, gd.c, l', gd.j, gd.lv⟩ delay room pv P fv F used s := by
  have hn : ∀ x, col x ≠ 3 → ¬ x = gd.g := fun x hx e => hx (by rw [e]; exact h.c3)
  exact ⟨h.str.keep hk (hn _ (by rw [h.c1]; decide)), hg, ownsRow_keep h.row hk (fun g hg => hn _ (by rw [h.c4 g hg]; decide)), ownsRow_keep h.fates hk (fun g hg => hn _ (by rw [h.c5 g hg]; decide)),
    fun i p hp => (h.pipes i p hp).keep hk (fun q hq => hn q (by have hq : col q = 6 + i ∨ col q = 5 := hq; omega)), h.c1, h.c2, h.c3, h.c4, h.c5, fun x hx => h.top x (Nat.le_trans hk.size hx)⟩
end
end Go.Proofs.Ytlodiibmofeikaa
