/- clr: Pass. -/
import Derived.Test.YthnnhagccemnnaaClr10
import Derived.Deep.RegionHeld3
import Derived.Deep.QuietTactic
import Derived.BigQuiet
namespace Go.Proofs.Ythnnhagccemnnaa
open Go.RowKit
set_option linter.unusedVariables false
set_option linter.unusedSimpArgs false

set_option maxRecDepth 100000 in
set_option maxHeartbeats 1000000 in
theorem pass_yes (b : Nat) (v : Value) (l : List Told) (lim c now : Int) (w : World) (h : BkAt w b v l lim c) (hn : l.length ≤ 1000) (ht : 0 ≤ (gotV (lk l c)).tick ∧ (gotV (lk l c)).tick ≤ 1099511627776) (hw : 0 ≤ now ∧ now ≤ 2199023255552) (hg : goes l lim c now = true) :
    Calls Try.prog 12 #[.pointer (some ⟨b, 0, none⟩), .int .i64 now] w fun e w' => e = .returned (.bool true) ∧ ∃ v' l', BkAt w' b v' l' lim (-1) ∧ (∀ x, lk l' x = if x = c then none else lk l x) ∧ l'.length + 1 = l.length ∧ v'.ownBlock = v.ownBlock ∧ Keep (fun k => k = b ∨ v.ownBlock = some k) w w' := by
  have hc := clr_any b v l lim c w h hn
  have hfr : (lk l c).isSome = true → (gotV (lk l c)).frm = c := fun h => by
    cases e : lk l c with
    | none => rw [e] at h; cases h
    | some o => have := List.find?_some e; simpa [gotV] using this
  unfold goes at hg
  generalize gotV (lk l c) = o at *
  have hs : (lk l c).isSome = true := by cases h : (lk l c).isSome <;> simp_all
  have g1 : o.tick < now := by rw [hs] at hg; simp at hg; exact hg.1
  have g2 : lim < now - o.tick := by rw [hs] at hg; simp at hg; exact hg.2
  have hf := hfr hs
  rw [hs, hf] at hc
  have HC := Lib.hid hc
  have H := Lib.hid h
  have HS := Lib.hid hs
  obtain ⟨t1, t2⟩ := ht
  obtain ⟨n1, n2⟩ := hw
  have HW := Lib.hid (IntWalk.i64_in (now - o.tick) (by omega) : IntKind.i64.wrap (now - o.tick) = now - o.tick)
  clear hc h hfr hf hg hs
  go_enter Try.func12, Try.ntmps12
  go_wp2_with fail
  refine HC.out.mono ?_
  rintro e w1 ⟨rfl, hb1⟩
  have H1 := Lib.hid (H.out.below hb1)
  obtain ⟨c0, c1, c2⟩ := blk3 H1.out.str
  have hbl : b < w1.heap.size := H1.out.str.lt
  have HB := Lib.hid hb1
  have H2 := Lib.hid (H1.out.below ((Below.refl _ w1).alloc (Nat.le_refl _) (.cells #[.int .i64 c, .int .i64 o.tick, .int .u64 o.rate] 34))).drew
  have HL := Lib.hid (leave_yes b v l lim c c _ H2.out hn HS.out)
  have HT := Lib.hid ((Blk.new w1 #[.int .i64 c, .int .i64 o.tick, .int .u64 o.rate] 34).drew)
  obtain ⟨z0, z1, z2⟩ := blk3 HT.out
  obtain ⟨y0, y1, y2⟩ := blk3 H2.out.str
  have HD1 := Lib.hid (decide_eq_true g1)
  have HD2 := Lib.hid (decide_eq_true g2)
  clear hb1 g1 g2
  go_wp2_with fail
  have hw := HW.out
  have hd1 := HD1.out
  have hd2 := HD2.out
  go_region_held3 (fun w' => w'.cell? ⟨b, 0, none⟩ = some (.int .i64 lim) ∧ w'.cell? ⟨w1.heap.size, 0, none⟩ = some (.int .i64 c) ∧ w'.cell? ⟨w1.heap.size, 1, none⟩ = some (.int .i64 o.tick)) (first | exact ⟨y0, z0, z1⟩ | exact d)
    (first
      | (go_at_call 21; refine HL.out.mono ?_; rintro e w3 ⟨rfl, hlv⟩; have HLV := Lib.hid hlv; have d := And.intro (by obtain ⟨⟨v', l', k1, -⟩, -⟩ := hlv; exact (blk3 k1.str).1) (And.intro (blk3 (HT.out.keep hlv.kp (fun h => h.elim (fun e => by omega) (fun e => by have := (H1.out.ne e).2; omega)))).1 (blk3 (HT.out.keep hlv.kp (fun h => h.elim (fun e => by omega) (fun e => by have := (H1.out.ne e).2; omega)))).2.1); clear hlv))
  go_wp2
  go_ret
  obtain ⟨⟨v', l', k1, k2, k3, k4⟩, k5⟩ := HLV.out
  rw [if_pos rfl] at k1
  exact ⟨by simp, v', l', k1, k2, k3, k4, ((Keep.ofBelowAll HB.out).alloc _).drew.trans k5 (fun _ _ h => h)⟩
end Go.Proofs.Ythnnhagccemnnaa
