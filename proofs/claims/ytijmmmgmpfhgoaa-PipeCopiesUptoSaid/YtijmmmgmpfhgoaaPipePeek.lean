/- pipe: Peek, Clear, Copy. -/
import Derived.Test.YtijmmmgmpfhgoaaPipePut
import Derived.Deep.RegionHeld3
namespace Go.Proofs.Ytijmmmgmpfhgoaa
open Go.RowKit
set_option linter.unusedVariables false
set_option linter.unusedSimpArgs false

theorem peek_none {R : Nat → Prop} {G : Nat → Prop} (b : Nat) (v : Value) (room : Int) (w : World) (h : PAt R w G b v [] room) :
    Calls Try.prog 22 #[.pointer (some ⟨b, 0, none⟩)] w fun e w' => e = .returned (.tuple #[.int .i64 0, .slice none 0 0, .int .i64 14]) ∧ w = w' := by
  obtain ⟨A, k, rfl⟩ := h.slice
  obtain ⟨c0, c1⟩ := blk2 h.str
  clear h
  go_enter Try.func22, Try.ntmps22
  go_wp2
  exact bodyPost_ret (v := .tuple #[.int .i64 0, .slice none 0 0, .int .i64 14]) (by simp [results, Try.results22, go_sem]) rfl ⟨rfl, rfl⟩
theorem held3c {wr w3 : World} {p0 p1 p2 : Addr} {v0 v1 v2 : Value} (hb : Below wr.drew.heap.size wr.drew w3) (d0 : wr.cell? p0 = some v0) (d1 : wr.cell? p1 = some v1) (d2 : wr.cell? p2 = some v2) :
    w3.cell? p0 = some v0 ∧ w3.cell? p1 = some v1 ∧ w3.cell? p2 = some v2 := by
  have key : ∀ {p : Addr} {v : Value}, wr.cell? p = some v → w3.cell? p = some v := fun {p v} d => ((Keep.none hb).cell (p := p) (World.block_lt_of_cell? _ _ d) id).trans d
  exact ⟨key d0, key d1, key d2⟩
set_option maxRecDepth 100000 in
set_option maxHeartbeats 1000000 in
theorem peek_some {R : Nat → Prop} {G : Nat → Prop} (b : Nat) (v : Value) (m : Msg) (t : List Msg) (room : Int) (w : World) (h : PAt R w G b v (m :: t) room) :
    Calls Try.prog 22 #[.pointer (some ⟨b, 0, none⟩)] w fun e w' => ∃ A c, e = .returned (.tuple #[.int .i64 m.due, .slice A m.n c, .int .i64 0]) ∧ w'.ownsRow w.heap.size 5 1 (.slice A m.n c) m.n (u8s m.bs) ∧ Below w.heap.size w w' := by
  obtain ⟨g, p, c, he, o0, o1⟩ := MsgsAt.at h.msgs (k := 0) (a := m) rfl
  obtain ⟨A, k, hv⟩ := h.slice
  cases he.symm.trans hv
  have hs := h.str
  rw [hv] at hs
  obtain ⟨c0, c1⟩ := blk2 hs
  have hmo := h.by' m (by simp)
  have HB := Lib.hid hs
  have HCL := Lib.hid (fun (w' : World) (hx : Reads w' 1 (.slice m.A m.n m.c) m.n (u8s m.bs)) => clone_byte (.slice m.A m.n m.c) m.n (u8s m.bs) w' hx (by have := hmo.2.2.1; omega) (u8s_one m.bs))
  have HX := Lib.hid (Reads.of_owns hmo.1)
  replace o0 : w.cell? ⟨g, p, none⟩ = some (.int .i64 m.due) := by simpa using o0
  replace o1 : w.cell? ⟨g, p + 1, none⟩ = some (.slice m.A m.n m.c) := by simpa using o1
  have HD := Lib.hid (And.intro o0 o1)
  obtain ⟨n, hn⟩ : ∃ n, n = (m :: t).length := ⟨_, rfl⟩
  have hn1 : 0 < n := by rw [hn]; simp
  rw [← hn] at HB c1
  obtain ⟨due, mA, mn, mc, bs⟩ := m
  simp only at HCL HX HD o0 o1 ⊢
  have i0 : ((n : Int) == 0) = false := by simp; omega
  have i1 : (0 : Int) < (n : Int) := by omega
  clear h hs hv he hmo hn
  go_enter Try.func22, Try.ntmps22
  go_wp2_with fail
  go_region_held3 (fun w' => w'.cell? ⟨b, 1, none⟩ = some (.slice (some ⟨g, p, none⟩) n c) ∧ w'.cell? ⟨g, p, none⟩ = some (.int .i64 due) ∧ w'.cell? ⟨g, p + 1, none⟩ = some (.slice mA mn mc)) (first | exact ⟨c1, o0, o1⟩ | exact d)
    (first
      | (go_at_call 21; refine (HCL.out _ (HX.out.drewN 1)).mono ?_; rintro e w3 ⟨A3, c3, rfl, ho3, hb3, -⟩; have HO3 := Lib.hid ho3; have HB3 := Lib.hid hb3; have d := held3c hb3 (blk2 HB.out).2 HD.out.1 HD.out.2; clear ho3 hb3))
  go_wp2
  exact bodyPost_ret (v := .tuple #[.int .i64 due, .slice A3 mn c3, .int .i64 0]) (by simp [results, Try.results22, go_sem]) rfl ⟨A3, c3, rfl, HO3.out, bmore (below_drewN (Below.refl _ w) 1) HB3.out (Nat.le_refl _)⟩

theorem run_clearAll (w : World) (g n c : Nat) (cur : Array Value) (ty : TypeId) (hg : Blk w g cur 53) (hn : 0 < n) (hfit : n * 2 ≤ cur.size) :
    ∃ cur', cur'.size = cur.size ∧ (Builtin.clear_ #[45] ty #[.slice (some ⟨g, 0, none⟩) n c]).run Try.prog w = .ok (.tuple #[]) (w.setRow g cur') := by
  obtain ⟨zs, hzs⟩ : ∃ zs, zs = (Builtin.zeroCells (.agg #[.int .i64 0, .slice none 0 0] : Value).cells n).toList := ⟨_, rfl⟩
  have hzl : zs.length = n * 2 := by rw [hzs, Array.length_toList, size_zeroCells]; rfl
  have hzo : ∀ v ∈ zs, v.oneCell' = true := by
    intro v hv
    rw [hzs] at hv
    simp only [Builtin.zeroCells, Value.cells, Array.toList_map, List.mem_map] at hv
    obtain ⟨i, -, rfl⟩ := hv
    have h2 : (#[Value.int .i64 0, Value.slice none 0 0] : Array Value).size = 2 := rfl
    rw [h2]
    rcases Nat.mod_two_eq_zero_or_one i with e | e <;> rw [e] <;> rfl
  have hst := run_storeCells_at (P := Try.prog) g 0 53 zs 0 cur w hg (by rw [hzl]; simpa using hfit) hzo
  simp only [Nat.add_zero] at hst
  obtain ⟨n', rfl⟩ : ∃ n', n = n' + 1 := ⟨n - 1, by omega⟩
  refine ⟨(List.take 0 cur.toList ++ zs ++ List.drop (0 + zs.length) cur.toList).toArray, by simp [hzl]; omega, ?_⟩
  have hz' := hzs.symm
  simp [Builtin.clear_, run_underlying Try.underlying45, zsize_msg, hz', hst]
theorem run_clear0 (w : World) (A : Option Addr) (c : Nat) (ty : TypeId) : (Builtin.clear_ #[45] ty #[.slice A 0 c]).run Try.prog w = .ok (.tuple #[]) w := by
  cases A <;> simp [Builtin.clear_, run_underlying Try.underlying45]
/-- cells are cleared, the length is none -/
theorem clear_any {R : Nat → Prop} {G : Nat → Prop} (b : Nat) (v : Value) (l : List Msg) (room : Int) (w : World) (h : PAt R w G b v l room) (hn : l.length ≤ 1000000) :
    Calls Try.prog 11 #[.pointer (some ⟨b, 0, none⟩)] w fun e w' => e = .returned (.int .i64 l.length) ∧ (∃ v', PAt R w' G b v' [] room) ∧ Keep G w w' := by
  have hgb := h.gb
  have hgv := h.gv
  have hstr := h.str
  have hne := @PAt.ne _ _ _ _ _ _ _ h
  have hrow := h.row
  clear h
  rcases hrow.2 with ⟨rfl, h0⟩ | ⟨g, cap, cur, rfl, hg, hh, h1, h2, h3, h4⟩
  · obtain ⟨c0, c1⟩ := blk2 hstr
    have f1 := hstr.frozen 1
    have HS := Lib.hid hstr
    rw [h0]
    clear hstr hne hrow h0 hgv
    have hcl := run_clear0
    go_enter Try.func11, Try.ntmps11
    go_wp2
    go_ret
    exact ⟨rfl, ⟨.slice none 0 0, HS.out.set' rfl, World.ownsRow_nil _ _ _ _, fun m hm => (by cases hm), hgb, fun g hg => (by cases hg)⟩, (Keep.refl G w).setCell (p := ⟨b, 1, none⟩) (.inl hgb) _⟩
  · obtain ⟨n, hnl⟩ : ∃ n, n = l.length := ⟨_, rfl⟩
    rw [← hnl] at hstr hne hgv h1 hn ⊢
    obtain ⟨c0, c1⟩ := blk2 hstr
    have HS := Lib.hid hstr
    have HH : Hid (Blk w g cur 53) := hh
    have hgb2 := (hne rfl).1
    have HGV : Hid (G g) := hgv g rfl
    have hc2 : n * 2 ≤ cur.size := by rw [h3]; omega
    have HCP : Hid (cap ≤ maxLen ∧ cur.size = cap * 2) := ⟨h2, h3⟩
    clear hstr hne hrow h2 h3 h4 hh hgv hnl hg
    by_cases hz : n = 0
    · subst hz
      have hcl := run_clear0
      go_enter Try.func11, Try.ntmps11
      have f1 := HS.out.frozen 1
      go_wp2
      go_ret
      have hk : Keep (fun q => q = b) w (w.setCell ⟨b, 1, none⟩ (.slice (some ⟨g, 0, none⟩) 0 cap)) := (Keep.refl (fun q => q = b) w).setCell (p := ⟨b, 1, none⟩) (.inl rfl) _
      exact ⟨rfl, ⟨.slice (some ⟨g, 0, none⟩) 0 cap, HS.out.set' rfl, ⟨rfl, .inr ⟨g, cap, cur, rfl, Nat.zero_le _, HH.out.keep hk hgb2, Nat.zero_le _, HCP.out.1, HCP.out.2, by simp⟩⟩, fun m hm => (by cases hm), hgb, fun g' hg => by cases hg; exact HGV.out⟩, (Keep.refl G w).setCell (p := ⟨b, 1, none⟩) (.inl hgb) _⟩
    · have HRC := Lib.hid (fun ty => run_clearAll w g n cap cur ty HH.out (by omega) hc2)
      have i0 : (0 : Int) ≤ (cap : Int) := by omega
      go_enter Try.func11, Try.ntmps11
      go_wp2_with (obtain ⟨cur', hs', hr'⟩ := HRC.out _; refine wpList_run1 rfl _ 45 .clear Builtin.clear_ (fun _ _ _ _ => rfl) rfl _ rfl _ _ hr' ?_; have HHN := Lib.hid (setRow_heap w g cur cur' _ _ HH.out); have HK := Lib.hid ((Keep.refl (fun q => q = g) w).setRow (.inl rfl) cur'); have HSN := Lib.hid (HS.out.keep HK.out (fun e => hgb2 e.symm)); have HCN : Hid (cur'.size = cap * 2) := (hs'.trans HCP.out.2); obtain ⟨c0', c1'⟩ := blk2 HSN.out; have f1 := HSN.out.frozen 1; generalize w.setRow g cur' = w2 at *; clear hr' hs' c0 c1 HRC)
      go_ret
      have hk : Keep (fun q => q = b) w2 (w2.setCell ⟨b, 1, none⟩ (.slice (some ⟨g, 0, none⟩) 0 cap)) := (Keep.refl (fun q => q = b) w2).setCell (p := ⟨b, 1, none⟩) (.inl rfl) _
      exact ⟨rfl, ⟨.slice (some ⟨g, 0, none⟩) 0 cap, HSN.out.set' rfl, ⟨rfl, .inr ⟨g, cap, cur', rfl, Nat.zero_le _, Blk.keep HHN.out hk hgb2, Nat.zero_le _, HCP.out.1, HCN.out, by simp⟩⟩, fun m hm => (by cases hm), hgb, fun g' hg => by cases hg; exact HGV.out⟩, (HK.out.mono (fun q _ e => by rw [e]; exact HGV.out)).setCell (p := ⟨b, 1, none⟩) (.inl hgb) _⟩
end Go.Proofs.Ytijmmmgmpfhgoaa
