/- simnet: the law's state. -/
import Derived.Test.YtlodiibmofeikaaQNetPlaysA
namespace Go.Proofs.Ytlodiibmofeikaa
open Go.RowKit Go.Shelf
set_option linter.unusedVariables false
set_option linter.unusedSimpArgs false
theorem ne_blk' {W : World} {base size n b g : Nat} {e : TypeId} {v : Value} {xs : List Value} {cs : Array Value} (h : W.ownsRow base e size v n xs) (hb : Blk W b cs 59) (hT : 59 ≠ e) (hg : v.ownBlock = some g) : ¬ g = b := ne_blk h hg hb hT
theorem ne_lists : 59 ≠ 92 := by decide
theorem ne_ask : 59 ≠ 87 := by decide
theorem ne_msg : 59 ≠ 110 := by decide
/-- the model's own box gets another model -/
theorem NM.box {w w' : World} {col : Nat → Nat} {nb n : Nat} {delay room j lv : Int} {F : List FD} {m : MD} {k : Nat} {t : Int} (h : NM w col nb n delay room j lv F m k t) {b : Nat} {cs : Array Value} (hb : Blk w b cs 59) (hnb : nb < b) (hc : col b = 0) (hk : Keep (fun q => q = b) w w') : NM w' col nb n delay room j lv F m k t := by
  obtain ⟨⟨gd, pv, P, fv, asks, vs, Xs, a, mm, c⟩, d1, d2, d3, d4, d5, d6, d7, d8⟩ := h
  refine ⟨⟨gd, pv, P, fv, asks, vs, Xs, a.keep hk (fun x hx e => hx (by rw [e]; exact hc)), ?_, c⟩, d1, d2, d3, d4, d5, d6, d7, d8⟩
  exact ⟨ownsRow_keep mm.asks hk (fun g hg => ne_blk' mm.asks hb ne_ask hg), ownsRow_keep mm.lists hk (fun g hg => ne_blk' mm.lists hb ne_lists hg), mm.len, fun i v X hv hX => ⟨ownsRow_keep (mm.each i v X hv hX).1 hk (fun g hg => ne_blk' (mm.each i v X hv hX).1 hb ne_msg hg), (mm.each i v X hv hX).2⟩,
    mm.fates.keep hk (fun g hg hp e => by have := d8 g hg hp; omega), mm.fg, mm.ga, mm.gl⟩
theorem stb0 : StB (27 * ((0 : Nat) : Int)) stN0 := ⟨by decide, by decide, by decide, by decide, by decide, by decide⟩
theorem nm_new {w : World} {col : Nat → Nat} {nb gb gg n : Nat} {delay room j lv : Int} {pv fv : Value} {P : List PD} {F : List FD} {fA : Option Addr} {fc lb : Nat} (hN : NetAt w col nb ⟨gb, gg, n, List.replicate n one0, j, lv⟩ delay room pv P fv F 0 stN0) (hP : P.length = n + 1) (hp : newPipes P)
    (hrow : w.ownsRow 0 92 1 (.slice (some ⟨lb, 0, none⟩) (n + 1) (n + 1)) (n + 1) (List.replicate (n + 1) (.slice none 0 0))) (hlb : col lb = 0) (hf : Reads w 2 (Value.slice fA F.length fc) F.length (F.flatMap fateCells)) (hfg : ∀ g, (Value.slice fA F.length fc).ownBlock = some g → 0 < F.length → col g = 0 ∧ g < nb) (hcf : Cf n delay room j lv) (hF : F.length ≤ 200) :
    NM w col nb n delay room j lv F (mdZ n delay room j lv (Value.slice fA F.length fc) (.slice (some ⟨lb, 0, none⟩) (n + 1) (n + 1))) 0 0 := by
  refine ⟨⟨_, pv, P, fv, [], List.replicate (n + 1) (.slice none 0 0), List.replicate (n + 1) [], hN, ⟨World.ownsRow_nil _ _ _ _, by rw [List.length_replicate]; exact hrow, by simp, fun i v X hv hX => ?_, hf, fun g hg hp => (hfg g hg hp).1, fun g hg => (by cases hg), fun g hg => by cases hg; exact hlb⟩, PInv.zero n j lv, rfl, rfl, hP, by simp, fun i pd X hpd hX => ?_, fun a ha => (by simp at ha)⟩, ⟨rfl, rfl, rfl, rfl, rfl⟩, hcf, hF, Nat.zero_le _, stb0, by omega, by omega, fun g hg hp => (hfg g hg hp).2⟩
  · rw [List.getElem?_replicate] at hv hX
    split at hv
    · rename_i e
      rw [if_pos e] at hX
      cases hv
      cases hX
      exact ⟨World.ownsRow_nil _ _ _ _, fun g hg => (by cases hg)⟩
    · cases hv
  · have h1 := hp pd (List.mem_of_getElem? hpd)
    rw [List.getElem?_replicate] at hX
    split at hX
    · cases hX
      rw [h1]
      exact ⟨rfl, by have := hcf.room; simp; omega⟩
    · cases hX
section
variable {ops : Array Oper} {rest : List Oper} {op : Oper} {a : Act} {w : World} {Q : Exit → Act → World → Prop}
theorem wpList_loadMg (hw : Region.wanted op (yielded ops a.tmps) = true) (x : Operand) (ho : op.op = .load 59 x)
    (b : Nat) (hx : a.eval x = .pointer (some ⟨b, 0, none⟩)) (m : MD) (hb : Blk w b (modC m) 59) (h : wpList Try.prog ops Q rest (a.put op.dst (.agg (modC m))) w) : wpList Try.prog ops Q (op :: rest) a w := by
  refine BigFrame.wpList_want hw fun _ hK => ?_
  have hr := run_loadVar_row (P := Try.prog) w b _ _ (modC m) (0, 0) _ hb Try.underlying59 rfl (by rw [modC_size]; exact info_md1)
  unfold Oper.wp execOp
  simp only [ho, hx, Instr.loadAt, Instr.sureAddr, Sem.run_bind, Sem.run_pure, Result.andThen_ok, hr]
  exact hK _ _ h
end
end Go.Proofs.Ytlodiibmofeikaa
