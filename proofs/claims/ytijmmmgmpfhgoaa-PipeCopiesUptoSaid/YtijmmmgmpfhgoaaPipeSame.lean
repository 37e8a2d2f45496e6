/- pipe: the law's same. -/
import Derived.Test.YtijmmmgmpfhgoaaPipeStep2
namespace Go.Proofs.Ytijmmmgmpfhgoaa
open Go.RowKit Go.Shelf
set_option linter.unusedVariables false
set_option linter.unusedSimpArgs false

set_option maxRecDepth 100000 in
set_option maxHeartbeats 1000000 in
theorem same_nil {R : Nat → Prop} {G : Nat → Prop} (b : Nat) (v : Value) (room now : Int) (xv : Value) (w : World) (h : SIn R w G b v [] room xv []) :
    Calls Try.prog 14 #[.pointer (some ⟨b, 0, none⟩), xv, .int .i64 room, .int .i64 now] w fun e w' => e = .returned (.bool true) ∧ Below w.heap.size w w' := by
  have HS := Lib.hid h
  obtain ⟨xA, xk, rfl⟩ := ownsRow_slice h.row
  clear h
  go_enter Try.func14, Try.ntmps14
  go_wp2_with fail
  go_loopw [9, 11, 18] (fun n _ i wr => i = .int .i64 0 ∧ n = .int .i64 0 ∧ Hid (w = wr)) (fun _ _ i _ => 0)
  case atStart => exact ⟨rfl, rfl, rfl⟩
  case round =>
    obtain ⟨rfl, rfl, HW⟩ := hrel
    have hw := HW.out
    subst hw
    clear HW
    have hL0 : ((([] : List RM).length : Nat) : Int) = 0 := rfl
    go_wp2_with fail
    refine (peek_none b v room _ HS.out.at_).mono ?_
    rintro e w2 ⟨rfl, rfl⟩
    go_wp2_with fail
    refine (first_any _ [] _ HS.out.row.rat (by simp)).mono ?_
    rintro e w3 ⟨rfl, hb3⟩
    have HB3 := Lib.hid hb3
    have hfi : fi [] ([] : List RM).length = -1 := rfl
    rw [hfi]
    clear hb3 hfi
    go_wp2_with fail
    refine (len_any b v [] room _ (HS.out.at_.below HB3.out)).mono ?_
    rintro e w4 ⟨rfl, rfl⟩
    go_wp2_with fail
    refine (due_any b v [] room now _ (HS.out.at_.below HB3.out) (by simp)).mono ?_
    rintro e w5 ⟨rfl, hb5⟩
    have HB5 := Lib.hid hb5
    have hdd : ((dueN [] now : Nat) : Int) = 0 := rfl
    rw [hdd]
    clear hb5 hdd
    go_wp2
    go_ret
    exact ⟨rfl, bmore HB3.out HB5.out HB3.out.size⟩
set_option maxRecDepth 100000 in
set_option maxHeartbeats 4000000 in
theorem same_cons {R : Nat → Prop} {G : Nat → Prop} (b : Nat) (v : Value) (m : Msg) (t : List Msg) (room now : Int) (xv : Value) (X : List RM) (w : World) (h : SIn R w G b v (m :: t) room xv X) :
    Calls Try.prog 14 #[.pointer (some ⟨b, 0, none⟩), xv, .int .i64 room, .int .i64 now] w fun e w' => e = .returned (.bool true) ∧ Below w.heap.size w w' := by
  have HS := Lib.hid h
  obtain ⟨i, hi, hfi, hXi, -⟩ := head_first h.rel
  have HXI := Lib.hid hXi
  have HFI := Lib.hid hfi
  have hxl := h.xlen
  have hlr := h.len
  have hrr := h.room
  have HDU : Hid (((dueN (m :: t) now : Nat) : Int) = ((cntD X now : Nat) : Int)) := by show _ = _; rw [due_cnt h.rel]
  have HXL : Hid ((((m :: t).length : Nat) : Int) = (X.length : Int)) := by show _ = _; rw [hxl]
  have HLL : Hid ((m :: t).length ≤ 1000000) := by show _ ≤ _; omega
  have HRR : Hid (0 ≤ room ∧ room ≤ 1000) := ⟨by omega, by omega⟩
  have hXL : X.length ≤ 1000 := by omega
  obtain ⟨l, hl⟩ : ∃ l, l = m :: t := ⟨_, rfl⟩
  obtain ⟨xA, xk, rfl⟩ := ownsRow_slice h.row
  have HX := Lib.hid h.row.rat
  rw [← hl] at HXL HDU HLL
  have HLE := Lib.hid hl
  clear h hl hXi hfi hxl hlr
  go_enter Try.func14, Try.ntmps14
  go_wp2_with fail
  go_loopw [9, 11, 18] (fun n _ j wr => ∃ k : Nat, j = .int .i64 k ∧ k ≤ X.length ∧ n = .int .i64 (cntD (X.take k) now) ∧ Hid (Below w.heap.size w wr)) (fun _ _ j _ => X.length - (intOf j).toNat)
  case atStart => exact ⟨0, rfl, by omega, rfl, Below.refl _ _⟩
  case round =>
    obtain ⟨k, rfl, hk, rfl, HB⟩ := hrel
    by_cases hlt : k < X.length
    · obtain ⟨o, ho⟩ : ∃ o, X[k]? = some o := ⟨_, List.getElem?_eq_getElem hlt⟩
      have HH := Lib.hid (Reads.below HX.out HB.out)
      obtain ⟨g, p, c', he, o0, o1⟩ := RAt.at HH.out ho
      cases he
      have i1 : (0 : Int) ≤ (k : Int) := by omega
      have i2 : (k : Int) < (X.length : Int) := by omega
      have HT := Lib.hid (cntD_take X now ho)
      have hnl : cntD (X.take k) now ≤ 1000 := by have h1 := cntD_le (X.take k) now; have h2 : (X.take k).length ≤ k := by simp; omega
                                                  omega
      generalize cntD (X.take k) now = n at *
      have HB2 : Hid (Below w.heap.size w (wr.alloc (.cells #[.int .i64 o.due, .string o.txt] 56))) := HB.out.alloc HB.out.size _
      have HOO := Lib.hid ho
      clear ho
      by_cases hd : o.due ≤ now
      · go_wp2
        go_roundw
        case rel => exact ⟨k + 1, by go_num, by omega, by rw [HT.out, if_pos hd]; go_num, HB2⟩
        case measure => simp [intOf]; omega
      · go_wp2
        go_roundw
        case rel => exact ⟨k + 1, by go_num, by omega, by rw [HT.out, if_neg hd]; rfl, HB2⟩
        case measure => simp [intOf]; omega
    · obtain rfl : k = X.length := by omega
      rw [List.take_length]
      have HS1 := Lib.hid (HS.out.below HB.out)
      go_wp2_with fail
      refine (peek_some b v m t room _ HS1.out.at_).mono ?_
      rintro e w2 ⟨pA, pc, rfl, hpo, hpb⟩
      have HPO := Lib.hid hpo
      have HPB := Lib.hid hpb
      clear hpo hpb
      have HS2 := Lib.hid (HS1.out.below HPB.out)
      go_wp2_with fail
      refine (first_any _ X _ HS2.out.row.rat (by omega)).mono ?_
      rintro e w3 ⟨rfl, hb3⟩
      rw [HFI.out]
      have HB3 := Lib.hid hb3
      have HS3 := Lib.hid (HS2.out.below hb3)
      have HR3 := Lib.hid ((Reads.of_owns HPO.out).below hb3)
      have HBF : Hid (Below w.heap.size w w3) := bmore (bmore HB.out HPB.out HB.out.size) HB3.out (Nat.le_trans HB.out.size HPB.out.size)
      have HSZ : Hid (w.heap.size ≤ w3.heap.size) := HBF.out.size
      clear hb3
      obtain ⟨g, p, c', he, -, -⟩ := RAt.at HS3.out.row.rat HXI.out
      cases he
      have HD0 : Hid (∀ W', Keep (fun _ => False) w3.drew W' → W'.cell? ⟨g, p + i * 2, none⟩ = some (.int .i64 m.due)) := fun W' hk => by
        obtain ⟨g', p', c'', he', q1, -⟩ := RAt.at ((HS3.out.row.rat.drewN 1).keep hk (fun _ _ _ => id)) HXI.out
        cases he'
        exact q1
      have HD1 : Hid (∀ W', Keep (fun _ => False) w3.drew W' → W'.cell? ⟨g, p + i * 2 + 1, none⟩ = some (.string (strOfNums m.bs))) := fun W' hk => by
        obtain ⟨g', p', c'', he', -, q1⟩ := RAt.at ((HS3.out.row.rat.drewN 1).keep hk (fun _ _ _ => id)) HXI.out
        cases he'
        exact q1
      have HCV : Hid (∀ W', Keep (fun _ => False) w3.drew W' → (convert 28 9 (.slice pA m.n pc)).run Try.prog W' = .ok (.string (strOfNums m.bs)) W') := fun W' hk => conv_ints ((HR3.out.drewN 1).keep hk (fun _ _ _ => id))
      rw [← HLE.out] at HS3
      generalize cntD X now = dn at *
      have i1 : (0 : Int) ≤ (i : Int) := by omega
      have i2 : (i : Int) < (X.length : Int) := by omega
      have i3 : ((i : Int) < 0) = False := by simp
      go_wp2_with fail
      refine wp_region_noPanic ?_
      refine wp_region_held_drew (S := fun W' => Keep (fun _ => False) w3.drew W') (by kernel_rfl) (Keep.refl _ _) (fun hHeld => ?_)
      refine wpAnyH_take (i := 0) (oi := { dst := some 61, op := Op.move (Operand.tmp 0), type := 22, pos := "law.go:85", after := #[], guard := none }) (v := ?_) rfl (by kernel_rfl) (by kernel_rfl) (by kernel_rfl) (fun _ _ _ h => h) (Or.inl ⟨by rfl, ?_⟩) hHeld ?_
      rotate_left 1
      · intro wS hSw; clear hSw; go_simp <;> with_reducible rfl
      (try simp only [Act.put, List.setIfInBounds_toArray, List.set_cons_zero, List.set_cons_succ])
      refine wpAnyH_take (i := 2) (oi := { dst := some 63, op := Op.move (Operand.tmp 1), type := 33, pos := "law.go:85", after := #[], guard := none }) (v := ?_) rfl (by kernel_rfl) (by kernel_rfl) (by kernel_rfl) (fun _ _ _ h => h) (Or.inl ⟨by rfl, ?_⟩) hHeld ?_
      rotate_left 1
      · intro wS hSw; clear hSw; go_simp <;> with_reducible rfl
      (try simp only [Act.put, List.setIfInBounds_toArray, List.set_cons_zero, List.set_cons_succ])
      refine wpAnyH_take (i := 3) (oi := { dst := some 64, op := Op.call { callee := Callee.builtin Builtin.len, args := #[Operand.tmp 63], argTypes := #[33] }, type := 3, pos := "law.go:85", after := #[{ on := 2, ground := Ground.data }], guard := none }) (v := ?_) rfl (by kernel_rfl) (by kernel_rfl) (by kernel_rfl) (fun _ _ _ h => h) (Or.inl ⟨by rfl, ?_⟩) hHeld ?_
      rotate_left 1
      · intro wS hSw; clear hSw; go_simp <;> with_reducible rfl
      (try simp only [Act.put, List.setIfInBounds_toArray, List.set_cons_zero, List.set_cons_succ])
      refine wpAnyH_ready (rs := [1]) (by kernel_rfl) (by simp) ?_
      refine AllReadyH.cons rfl (fun K hK => ?_) AllReadyH.nil
      go_simp
      go_wp2_with fail
      refine (len_any b v l room _ ((HS3.out.below (below_drewN (Below.refl _ w3) 1)).at_)).mono ?_
      rintro e w4 ⟨rfl, rfl⟩
      rw [HXL.out]
      refine hK.out _ _ (Keep.refl _ _) (fun hHeld => ?_)
      clear hK K
      (try simp only [Act.put, List.setIfInBounds_toArray, List.set_cons_zero, List.set_cons_succ])
      refine wpAnyH_take (i := 4) (oi := { dst := some 65, op := Op.binOp BinOp.eql 3 (Operand.tmp 62) (Operand.tmp 64) 3, type := 4, pos := "law.go:85", after := #[{ on := 1, ground := Ground.data }, { on := 3, ground := Ground.data }], guard := none }) (v := .bool true) rfl (by kernel_rfl) (by kernel_rfl) (by kernel_rfl) (fun _ _ _ h => h) (Or.inl ⟨by rfl, ?_⟩) hHeld ?_
      · intro wS hSw; clear hSw; go_simp
      (try simp only [Act.put, List.setIfInBounds_toArray, List.set_cons_zero, List.set_cons_succ])
      refine wpAnyH_take (i := 5) (oi := { dst := some 66, op := Op.move (Operand.tmp 65), type := 4, pos := "law.go:85", after := #[{ on := 4, ground := Ground.data }, { on := 1, ground := Ground.chain }], guard := none }) (v := .bool true) rfl (by kernel_rfl) (by kernel_rfl) (by kernel_rfl) (fun _ _ _ h => h) (Or.inl ⟨by rfl, ?_⟩) hHeld ?_
      · intro wS hSw; clear hSw; go_simp
      (try simp only [Act.put, List.setIfInBounds_toArray, List.set_cons_zero, List.set_cons_succ])
      refine wpAnyH_take (i := 6) (oi := { dst := some 67, op := Op.move (Operand.tmp 0), type := 22, pos := "law.go:85", after := #[{ on := 5, ground := Ground.guard }], guard := some (5, true) }) (v := ?_) rfl (by kernel_rfl) (by kernel_rfl) (by kernel_rfl) (fun _ _ _ h => h) (Or.inl ⟨by rfl, ?_⟩) hHeld ?_
      rotate_left 1
      · intro wS hSw; clear hSw; go_simp <;> with_reducible rfl
      (try simp only [Act.put, List.setIfInBounds_toArray, List.set_cons_zero, List.set_cons_succ])
      refine wpAnyH_take (i := 8) (oi := { dst := some 69, op := Op.move (Operand.tmp 2), type := 3, pos := "law.go:85", after := #[{ on := 5, ground := Ground.guard }], guard := some (5, true) }) (v := ?_) rfl (by kernel_rfl) (by kernel_rfl) (by kernel_rfl) (fun _ _ _ h => h) (Or.inl ⟨by rfl, ?_⟩) hHeld ?_
      rotate_left 1
      · intro wS hSw; clear hSw; go_simp <;> with_reducible rfl
      (try simp only [Act.put, List.setIfInBounds_toArray, List.set_cons_zero, List.set_cons_succ])
      refine wpAnyH_take (i := 9) (oi := { dst := some 70, op := Op.move (Operand.tmp 1), type := 33, pos := "law.go:85", after := #[{ on := 5, ground := Ground.guard }], guard := some (5, true) }) (v := ?_) rfl (by kernel_rfl) (by kernel_rfl) (by kernel_rfl) (fun _ _ _ h => h) (Or.inl ⟨by rfl, ?_⟩) hHeld ?_
      rotate_left 1
      · intro wS hSw; clear hSw; go_simp <;> with_reducible rfl
      (try simp only [Act.put, List.setIfInBounds_toArray, List.set_cons_zero, List.set_cons_succ])
      refine wpAnyH_take (i := 10) (oi := { dst := some 71, op := Op.call { callee := Callee.builtin Builtin.len, args := #[Operand.tmp 70], argTypes := #[33] }, type := 3, pos := "law.go:85", after := #[{ on := 9, ground := Ground.data }, { on := 5, ground := Ground.guard }], guard := some (5, true) }) (v := ?_) rfl (by kernel_rfl) (by kernel_rfl) (by kernel_rfl) (fun _ _ _ h => h) (Or.inl ⟨by rfl, ?_⟩) hHeld ?_
      rotate_left 1
      · intro wS hSw; clear hSw; go_simp <;> with_reducible rfl
      (try simp only [Act.put, List.setIfInBounds_toArray, List.set_cons_zero, List.set_cons_succ])
      refine wpAnyH_take (i := 11) (oi := { dst := some 72, op := Op.binOp BinOp.sub 3 (Operand.tmp 69) (Operand.tmp 71) 3, type := 3, pos := "law.go:85", after := #[{ on := 8, ground := Ground.data }, { on := 10, ground := Ground.data }, { on := 5, ground := Ground.guard }], guard := some (5, true) }) (v := ?_) rfl (by kernel_rfl) (by kernel_rfl) (by kernel_rfl) (fun _ _ _ h => h) (Or.inl ⟨by rfl, ?_⟩) hHeld ?_
      rotate_left 1
      · intro wS hSw; clear hSw; go_simp <;> with_reducible rfl
      (try simp only [Act.put, List.setIfInBounds_toArray, List.set_cons_zero, List.set_cons_succ])
      refine wpAnyH_ready (rs := [7]) (by kernel_rfl) (by simp) ?_
      refine AllReadyH.cons rfl (fun K hK => ?_) AllReadyH.nil
      go_simp
      go_wp2_with fail
      refine (room_any b v l room _ ((HS3.out.below (below_drewN (Below.refl _ w3) 1)).at_) HLL.out HRR.out).mono ?_
      rintro e w5 ⟨rfl, hb5⟩
      rw [HXL.out]
      have HK5 := Lib.hid (Keep.none hb5)
      clear hb5
      refine hK.out _ _ HK5.out (fun hHeld => ?_)
      clear hK K
      (try simp only [Act.put, List.setIfInBounds_toArray, List.set_cons_zero, List.set_cons_succ])
      refine wpAnyH_take (i := 12) (oi := { dst := some 73, op := Op.binOp BinOp.eql 3 (Operand.tmp 68) (Operand.tmp 72) 3, type := 4, pos := "law.go:85", after := #[{ on := 7, ground := Ground.data }, { on := 11, ground := Ground.data }, { on := 5, ground := Ground.guard }], guard := some (5, true) }) (v := .bool true) rfl (by kernel_rfl) (by kernel_rfl) (by kernel_rfl) (fun _ _ _ h => h) (Or.inl ⟨by rfl, ?_⟩) hHeld ?_
      · intro wS hSw; clear hSw; go_simp; first | done | (symm; exact IntWalk.i64_in _ (by have := HRR.out; omega)) | (rw [IntWalk.i64_in _ (by have := HRR.out; omega)])
      (try simp only [Act.put, List.setIfInBounds_toArray, List.set_cons_zero, List.set_cons_succ])
      refine wpAnyH_take (i := 13) (oi := { dst := some 74, op := Op.pick (Operand.tmp 66) (Operand.tmp 73) (Operand.const (Value.bool false)), type := 4, pos := "law.go:85", after := #[{ on := 5, ground := Ground.data }, { on := 12, ground := Ground.data }], guard := none }) (v := .bool true) rfl (by kernel_rfl) (by kernel_rfl) (by kernel_rfl) (fun _ _ _ h => h) (Or.inl ⟨by rfl, ?_⟩) hHeld ?_
      · intro wS hSw; clear hSw; go_simp
      (try simp only [Act.put, List.setIfInBounds_toArray, List.set_cons_zero, List.set_cons_succ])
      refine wpAnyH_take (i := 14) (oi := { dst := some 75, op := Op.move (Operand.tmp 74), type := 4, pos := "law.go:85", after := #[{ on := 13, ground := Ground.data }, { on := 7, ground := Ground.chain }], guard := none }) (v := .bool true) rfl (by kernel_rfl) (by kernel_rfl) (by kernel_rfl) (fun _ _ _ h => h) (Or.inl ⟨by rfl, ?_⟩) hHeld ?_
      · intro wS hSw; clear hSw; go_simp
      (try simp only [Act.put, List.setIfInBounds_toArray, List.set_cons_zero, List.set_cons_succ])
      refine wpAnyH_take (i := 15) (oi := { dst := some 76, op := Op.move (Operand.tmp 0), type := 22, pos := "law.go:85", after := #[{ on := 14, ground := Ground.guard }], guard := some (14, true) }) (v := ?_) rfl (by kernel_rfl) (by kernel_rfl) (by kernel_rfl) (fun _ _ _ h => h) (Or.inl ⟨by rfl, ?_⟩) hHeld ?_
      rotate_left 1
      · intro wS hSw; clear hSw; go_simp <;> with_reducible rfl
      (try simp only [Act.put, List.setIfInBounds_toArray, List.set_cons_zero, List.set_cons_succ])
      refine wpAnyH_take (i := 16) (oi := { dst := some 77, op := Op.move (Operand.tmp 3), type := 3, pos := "law.go:85", after := #[{ on := 14, ground := Ground.guard }], guard := some (14, true) }) (v := ?_) rfl (by kernel_rfl) (by kernel_rfl) (by kernel_rfl) (fun _ _ _ h => h) (Or.inl ⟨by rfl, ?_⟩) hHeld ?_
      rotate_left 1
      · intro wS hSw; clear hSw; go_simp <;> with_reducible rfl
      (try simp only [Act.put, List.setIfInBounds_toArray, List.set_cons_zero, List.set_cons_succ])
      refine wpAnyH_take (i := 18) (oi := { dst := some 79, op := Op.move (Operand.tmp 9), type := 3, pos := "law.go:85", after := #[{ on := 14, ground := Ground.guard }], guard := some (14, true) }) (v := ?_) rfl (by kernel_rfl) (by kernel_rfl) (by kernel_rfl) (fun _ _ _ h => h) (Or.inl ⟨by rfl, ?_⟩) hHeld ?_
      rotate_left 1
      · intro wS hSw; clear hSw; go_simp <;> with_reducible rfl
      (try simp only [Act.put, List.setIfInBounds_toArray, List.set_cons_zero, List.set_cons_succ])
      refine wpAnyH_ready (rs := [17]) (by kernel_rfl) (by simp) ?_
      refine AllReadyH.cons rfl (fun K hK => ?_) AllReadyH.nil
      go_simp
      go_wp2_with fail
      refine (due_any b v l room now _ (((HS3.out.below (below_drewN (Below.refl _ w3) 1)).at_).keep HK5.out (fun _ _ => id)) HLL.out).mono ?_
      rintro e w6 ⟨rfl, hb6⟩
      rw [HDU.out]
      have HK6 : Hid (Keep (fun _ => False) w3.drew w6) := HK5.out.trans (Keep.none hb6) (fun _ _ h => h)
      clear hb6
      refine hK.out _ _ HK6.out (fun hHeld => ?_)
      clear hK K
      (try simp only [Act.put, List.setIfInBounds_toArray, List.set_cons_zero, List.set_cons_succ])
      refine wpAnyH_take (i := 19) (oi := { dst := some 80, op := Op.binOp BinOp.eql 3 (Operand.tmp 78) (Operand.tmp 79) 3, type := 4, pos := "law.go:85", after := #[{ on := 17, ground := Ground.data }, { on := 18, ground := Ground.data }, { on := 14, ground := Ground.guard }], guard := some (14, true) }) (v := .bool true) rfl (by kernel_rfl) (by kernel_rfl) (by kernel_rfl) (fun _ _ _ h => h) (Or.inl ⟨by rfl, ?_⟩) hHeld ?_
      · intro wS hSw; clear hSw; go_simp
      (try simp only [Act.put, List.setIfInBounds_toArray, List.set_cons_zero, List.set_cons_succ])
      refine wpAnyH_take (i := 20) (oi := { dst := some 81, op := Op.pick (Operand.tmp 75) (Operand.tmp 80) (Operand.const (Value.bool false)), type := 4, pos := "law.go:85", after := #[{ on := 14, ground := Ground.data }, { on := 19, ground := Ground.data }], guard := none }) (v := .bool true) rfl (by kernel_rfl) (by kernel_rfl) (by kernel_rfl) (fun _ _ _ h => h) (Or.inl ⟨by rfl, ?_⟩) hHeld ?_
      · intro wS hSw; clear hSw; go_simp
      (try simp only [Act.put, List.setIfInBounds_toArray, List.set_cons_zero, List.set_cons_succ])
      refine wpAnyH_take (i := 21) (oi := { dst := some 82, op := Op.move (Operand.tmp 81), type := 4, pos := "law.go:85", after := #[{ on := 20, ground := Ground.data }, { on := 17, ground := Ground.chain }], guard := none }) (v := .bool true) rfl (by kernel_rfl) (by kernel_rfl) (by kernel_rfl) (fun _ _ _ h => h) (Or.inl ⟨by rfl, ?_⟩) hHeld ?_
      · intro wS hSw; clear hSw; go_simp
      (try simp only [Act.put, List.setIfInBounds_toArray, List.set_cons_zero, List.set_cons_succ])
      refine wpAnyH_take (i := 22) (oi := { dst := some 83, op := Op.move (Operand.tmp 14), type := 23, pos := "law.go:85", after := #[{ on := 21, ground := Ground.guard }], guard := some (21, true) }) (v := ?_) rfl (by kernel_rfl) (by kernel_rfl) (by kernel_rfl) (fun _ _ _ h => h) (Or.inl ⟨by rfl, ?_⟩) hHeld ?_
      rotate_left 1
      · intro wS hSw; clear hSw; go_simp <;> with_reducible rfl
      (try simp only [Act.put, List.setIfInBounds_toArray, List.set_cons_zero, List.set_cons_succ])
      refine wpAnyH_take (i := 23) (oi := { dst := some 84, op := Op.binOp BinOp.eql 23 (Operand.tmp 83) (Operand.const (Value.int IntKind.i64 0)) 23, type := 4, pos := "law.go:85", after := #[{ on := 22, ground := Ground.data }, { on := 21, ground := Ground.guard }], guard := some (21, true) }) (v := .bool true) rfl (by kernel_rfl) (by kernel_rfl) (by kernel_rfl) (fun _ _ _ h => h) (Or.inl ⟨by rfl, ?_⟩) hHeld ?_
      · intro wS hSw; clear hSw; go_simp
      (try simp only [Act.put, List.setIfInBounds_toArray, List.set_cons_zero, List.set_cons_succ])
      refine wpAnyH_take (i := 24) (oi := { dst := some 85, op := Op.pick (Operand.tmp 82) (Operand.tmp 84) (Operand.const (Value.bool false)), type := 4, pos := "law.go:85", after := #[{ on := 21, ground := Ground.data }, { on := 23, ground := Ground.data }], guard := none }) (v := .bool true) rfl (by kernel_rfl) (by kernel_rfl) (by kernel_rfl) (fun _ _ _ h => h) (Or.inl ⟨by rfl, ?_⟩) hHeld ?_
      · intro wS hSw; clear hSw; go_simp
      (try simp only [Act.put, List.setIfInBounds_toArray, List.set_cons_zero, List.set_cons_succ])
      refine wpAnyH_take (i := 25) (oi := { dst := some 86, op := Op.move (Operand.tmp 85), type := 4, pos := "law.go:85", after := #[{ on := 24, ground := Ground.data }, { on := 21, ground := Ground.chain }], guard := none }) (v := .bool true) rfl (by kernel_rfl) (by kernel_rfl) (by kernel_rfl) (fun _ _ _ h => h) (Or.inl ⟨by rfl, ?_⟩) hHeld ?_
      · intro wS hSw; clear hSw; go_simp
      (try simp only [Act.put, List.setIfInBounds_toArray, List.set_cons_zero, List.set_cons_succ])
      refine wpAnyH_take (i := 26) (oi := { dst := some 87, op := Op.move (Operand.tmp 12), type := 3, pos := "law.go:85", after := #[{ on := 25, ground := Ground.guard }], guard := some (25, true) }) (v := ?_) rfl (by kernel_rfl) (by kernel_rfl) (by kernel_rfl) (fun _ _ _ h => h) (Or.inl ⟨by rfl, ?_⟩) hHeld ?_
      rotate_left 1
      · intro wS hSw; clear hSw; go_simp <;> with_reducible rfl
      (try simp only [Act.put, List.setIfInBounds_toArray, List.set_cons_zero, List.set_cons_succ])
      refine wpAnyH_take (i := 27) (oi := { dst := some 88, op := Op.move (Operand.tmp 1), type := 33, pos := "law.go:85", after := #[{ on := 25, ground := Ground.guard }], guard := some (25, true) }) (v := ?_) rfl (by kernel_rfl) (by kernel_rfl) (by kernel_rfl) (fun _ _ _ h => h) (Or.inl ⟨by rfl, ?_⟩) hHeld ?_
      rotate_left 1
      · intro wS hSw; clear hSw; go_simp <;> with_reducible rfl
      (try simp only [Act.put, List.setIfInBounds_toArray, List.set_cons_zero, List.set_cons_succ])
      refine wpAnyH_take (i := 28) (oi := { dst := some 89, op := Op.move (Operand.tmp 15), type := 3, pos := "law.go:85", after := #[{ on := 25, ground := Ground.guard }], guard := some (25, true) }) (v := ?_) rfl (by kernel_rfl) (by kernel_rfl) (by kernel_rfl) (fun _ _ _ h => h) (Or.inl ⟨by rfl, ?_⟩) hHeld ?_
      rotate_left 1
      · intro wS hSw; clear hSw; go_simp <;> with_reducible rfl
      (try simp only [Act.put, List.setIfInBounds_toArray, List.set_cons_zero, List.set_cons_succ])
      refine wpAnyH_take (i := 29) (oi := { dst := some 90, op := Op.indexAddr 33 (Operand.tmp 88) (Operand.tmp 89), type := 0, pos := "law.go:85", after := #[{ on := 27, ground := Ground.data }, { on := 28, ground := Ground.data }, { on := 25, ground := Ground.guard }], guard := some (25, true) }) (v := ?_) rfl (by kernel_rfl) (by kernel_rfl) (by kernel_rfl) (fun _ _ _ h => h) (Or.inl ⟨by rfl, ?_⟩) hHeld ?_
      rotate_left 1
      · intro wS hSw; clear hSw; go_simp <;> with_reducible rfl
      (try simp only [Act.put, List.setIfInBounds_toArray, List.set_cons_zero, List.set_cons_succ])
      refine wpAnyH_take (i := 30) (oi := { dst := some 91, op := Op.fieldAddr 56 (Operand.tmp 90) 0, type := 0, pos := "law.go:85", after := #[{ on := 29, ground := Ground.data }, { on := 25, ground := Ground.guard }], guard := some (25, true) }) (v := ?_) rfl (by kernel_rfl) (by kernel_rfl) (by kernel_rfl) (fun _ _ _ h => h) (Or.inl ⟨by rfl, ?_⟩) hHeld ?_
      rotate_left 1
      · intro wS hSw; clear hSw; go_simp <;> with_reducible rfl
      (try simp only [Act.put, List.setIfInBounds_toArray, List.set_cons_zero, List.set_cons_succ])
      refine wpAnyH_take (i := 31) (oi := { dst := some 92, op := Op.load 3 (Operand.tmp 91), type := 3, pos := "law.go:85", after := #[{ on := 30, ground := Ground.data }, { on := 25, ground := Ground.guard }], guard := some (25, true) }) (v := ?_) rfl (by kernel_rfl) (by kernel_rfl) (by kernel_rfl) (fun _ _ _ h => h) (Or.inl ⟨by rfl, ?_⟩) hHeld ?_
      rotate_left 1
      · intro wS hSw; have q := HD0.out wS hSw; clear hSw; go_simp <;> with_reducible rfl
      (try simp only [Act.put, List.setIfInBounds_toArray, List.set_cons_zero, List.set_cons_succ])
      refine wpAnyH_take (i := 32) (oi := { dst := some 93, op := Op.binOp BinOp.eql 3 (Operand.tmp 87) (Operand.tmp 92) 3, type := 4, pos := "law.go:85", after := #[{ on := 26, ground := Ground.data }, { on := 31, ground := Ground.data }, { on := 25, ground := Ground.guard }], guard := some (25, true) }) (v := .bool true) rfl (by kernel_rfl) (by kernel_rfl) (by kernel_rfl) (fun _ _ _ h => h) (Or.inl ⟨by rfl, ?_⟩) hHeld ?_
      · intro wS hSw; clear hSw; go_simp
      (try simp only [Act.put, List.setIfInBounds_toArray, List.set_cons_zero, List.set_cons_succ])
      refine wpAnyH_take (i := 33) (oi := { dst := some 94, op := Op.pick (Operand.tmp 86) (Operand.tmp 93) (Operand.const (Value.bool false)), type := 4, pos := "law.go:85", after := #[{ on := 25, ground := Ground.data }, { on := 32, ground := Ground.data }], guard := none }) (v := .bool true) rfl (by kernel_rfl) (by kernel_rfl) (by kernel_rfl) (fun _ _ _ h => h) (Or.inl ⟨by rfl, ?_⟩) hHeld ?_
      · intro wS hSw; clear hSw; go_simp
      (try simp only [Act.put, List.setIfInBounds_toArray, List.set_cons_zero, List.set_cons_succ])
      refine wpAnyH_take (i := 34) (oi := { dst := some 95, op := Op.move (Operand.tmp 94), type := 4, pos := "law.go:85", after := #[{ on := 33, ground := Ground.data }, { on := 25, ground := Ground.chain }], guard := none }) (v := .bool true) rfl (by kernel_rfl) (by kernel_rfl) (by kernel_rfl) (fun _ _ _ h => h) (Or.inl ⟨by rfl, ?_⟩) hHeld ?_
      · intro wS hSw; clear hSw; go_simp
      (try simp only [Act.put, List.setIfInBounds_toArray, List.set_cons_zero, List.set_cons_succ])
      refine wpAnyH_take (i := 35) (oi := { dst := some 96, op := Op.move (Operand.tmp 13), type := 28, pos := "law.go:85", after := #[{ on := 34, ground := Ground.guard }], guard := some (34, true) }) (v := ?_) rfl (by kernel_rfl) (by kernel_rfl) (by kernel_rfl) (fun _ _ _ h => h) (Or.inl ⟨by rfl, ?_⟩) hHeld ?_
      rotate_left 1
      · intro wS hSw; clear hSw; go_simp <;> with_reducible rfl
      (try simp only [Act.put, List.setIfInBounds_toArray, List.set_cons_zero, List.set_cons_succ])
      refine wpAnyH_take (i := 36) (oi := { dst := some 97, op := Op.convert 28 9 (Operand.tmp 96), type := 9, pos := "law.go:85", after := #[{ on := 35, ground := Ground.data }, { on := 34, ground := Ground.guard }], guard := some (34, true) }) (v := ?_) rfl (by kernel_rfl) (by kernel_rfl) (by kernel_rfl) (fun _ _ _ h => h) (Or.inl ⟨by rfl, ?_⟩) hHeld ?_
      rotate_left 1
      · intro wS hSw; have q := HCV.out wS hSw; clear hSw; go_simp <;> with_reducible rfl
      (try simp only [Act.put, List.setIfInBounds_toArray, List.set_cons_zero, List.set_cons_succ])
      refine wpAnyH_take (i := 37) (oi := { dst := some 98, op := Op.move (Operand.tmp 1), type := 33, pos := "law.go:85", after := #[{ on := 34, ground := Ground.guard }], guard := some (34, true) }) (v := ?_) rfl (by kernel_rfl) (by kernel_rfl) (by kernel_rfl) (fun _ _ _ h => h) (Or.inl ⟨by rfl, ?_⟩) hHeld ?_
      rotate_left 1
      · intro wS hSw; clear hSw; go_simp <;> with_reducible rfl
      (try simp only [Act.put, List.setIfInBounds_toArray, List.set_cons_zero, List.set_cons_succ])
      refine wpAnyH_take (i := 38) (oi := { dst := some 99, op := Op.move (Operand.tmp 15), type := 3, pos := "law.go:85", after := #[{ on := 34, ground := Ground.guard }], guard := some (34, true) }) (v := ?_) rfl (by kernel_rfl) (by kernel_rfl) (by kernel_rfl) (fun _ _ _ h => h) (Or.inl ⟨by rfl, ?_⟩) hHeld ?_
      rotate_left 1
      · intro wS hSw; clear hSw; go_simp <;> with_reducible rfl
      (try simp only [Act.put, List.setIfInBounds_toArray, List.set_cons_zero, List.set_cons_succ])
      refine wpAnyH_take (i := 39) (oi := { dst := some 100, op := Op.indexAddr 33 (Operand.tmp 98) (Operand.tmp 99), type := 0, pos := "law.go:85", after := #[{ on := 37, ground := Ground.data }, { on := 38, ground := Ground.data }, { on := 34, ground := Ground.guard }], guard := some (34, true) }) (v := ?_) rfl (by kernel_rfl) (by kernel_rfl) (by kernel_rfl) (fun _ _ _ h => h) (Or.inl ⟨by rfl, ?_⟩) hHeld ?_
      rotate_left 1
      · intro wS hSw; clear hSw; go_simp <;> with_reducible rfl
      (try simp only [Act.put, List.setIfInBounds_toArray, List.set_cons_zero, List.set_cons_succ])
      refine wpAnyH_take (i := 40) (oi := { dst := some 101, op := Op.fieldAddr 56 (Operand.tmp 100) 1, type := 0, pos := "law.go:85", after := #[{ on := 39, ground := Ground.data }, { on := 34, ground := Ground.guard }], guard := some (34, true) }) (v := ?_) rfl (by kernel_rfl) (by kernel_rfl) (by kernel_rfl) (fun _ _ _ h => h) (Or.inl ⟨by rfl, ?_⟩) hHeld ?_
      rotate_left 1
      · intro wS hSw; clear hSw; go_simp <;> with_reducible rfl
      (try simp only [Act.put, List.setIfInBounds_toArray, List.set_cons_zero, List.set_cons_succ])
      refine wpAnyH_take (i := 41) (oi := { dst := some 102, op := Op.load 9 (Operand.tmp 101), type := 9, pos := "law.go:85", after := #[{ on := 40, ground := Ground.data }, { on := 34, ground := Ground.guard }], guard := some (34, true) }) (v := ?_) rfl (by kernel_rfl) (by kernel_rfl) (by kernel_rfl) (fun _ _ _ h => h) (Or.inl ⟨by rfl, ?_⟩) hHeld ?_
      rotate_left 1
      · intro wS hSw; have q := HD1.out wS hSw; clear hSw; go_simp <;> with_reducible rfl
      (try simp only [Act.put, List.setIfInBounds_toArray, List.set_cons_zero, List.set_cons_succ])
      refine wpAnyH_take (i := 42) (oi := { dst := some 103, op := Op.binOp BinOp.eql 9 (Operand.tmp 97) (Operand.tmp 102) 9, type := 4, pos := "law.go:85", after := #[{ on := 36, ground := Ground.data }, { on := 41, ground := Ground.data }, { on := 34, ground := Ground.guard }], guard := some (34, true) }) (v := .bool true) rfl (by kernel_rfl) (by kernel_rfl) (by kernel_rfl) (fun _ _ _ h => h) (Or.inl ⟨by rfl, ?_⟩) hHeld ?_
      · intro wS hSw; clear hSw; go_simp
      (try simp only [Act.put, List.setIfInBounds_toArray, List.set_cons_zero, List.set_cons_succ])
      refine wpAnyH_take (i := 43) (oi := { dst := some 104, op := Op.pick (Operand.tmp 95) (Operand.tmp 103) (Operand.const (Value.bool false)), type := 4, pos := "law.go:85", after := #[{ on := 34, ground := Ground.data }, { on := 42, ground := Ground.data }], guard := none }) (v := .bool true) rfl (by kernel_rfl) (by kernel_rfl) (by kernel_rfl) (fun _ _ _ h => h) (Or.inl ⟨by rfl, ?_⟩) hHeld ?_
      · intro wS hSw; clear hSw; go_simp
      (try simp only [Act.put, List.setIfInBounds_toArray, List.set_cons_zero, List.set_cons_succ])
      refine wpAnyH_take (i := 44) (oi := { dst := some 8, op := Op.assign (Operand.tmp 104), type := 4, pos := "law.go:85", after := #[{ on := 43, ground := Ground.data }, { on := 34, ground := Ground.chain }, { on := 0, ground := Ground.phase }, { on := 1, ground := Ground.phase }, { on := 2, ground := Ground.phase }, { on := 3, ground := Ground.phase }, { on := 4, ground := Ground.phase }, { on := 5, ground := Ground.phase }, { on := 6, ground := Ground.phase }, { on := 7, ground := Ground.phase }, { on := 8, ground := Ground.phase }, { on := 9, ground := Ground.phase }, { on := 10, ground := Ground.phase }, { on := 11, ground := Ground.phase }, { on := 12, ground := Ground.phase }, { on := 13, ground := Ground.phase }, { on := 14, ground := Ground.phase }, { on := 15, ground := Ground.phase }, { on := 16, ground := Ground.phase }, { on := 17, ground := Ground.phase }, { on := 18, ground := Ground.phase }, { on := 19, ground := Ground.phase }, { on := 20, ground := Ground.phase }, { on := 21, ground := Ground.phase }, { on := 22, ground := Ground.phase }, { on := 23, ground := Ground.phase }, { on := 24, ground := Ground.phase }, { on := 25, ground := Ground.phase }, { on := 26, ground := Ground.phase }, { on := 27, ground := Ground.phase }, { on := 28, ground := Ground.phase }, { on := 29, ground := Ground.phase }, { on := 30, ground := Ground.phase }, { on := 31, ground := Ground.phase }, { on := 32, ground := Ground.phase }, { on := 33, ground := Ground.phase }, { on := 34, ground := Ground.phase }, { on := 35, ground := Ground.phase }, { on := 36, ground := Ground.phase }, { on := 37, ground := Ground.phase }, { on := 38, ground := Ground.phase }, { on := 39, ground := Ground.phase }, { on := 40, ground := Ground.phase }, { on := 41, ground := Ground.phase }, { on := 42, ground := Ground.phase }, { on := 43, ground := Ground.phase }], guard := none }) (v := ?_) rfl (by kernel_rfl) (by kernel_rfl) (by kernel_rfl) (fun _ _ _ h => h) (Or.inl ⟨by rfl, ?_⟩) hHeld ?_
      rotate_left 1
      · intro wS hSw; clear hSw; go_simp <;> with_reducible rfl
      (try simp only [Act.put, List.setIfInBounds_toArray, List.set_cons_zero, List.set_cons_succ])
      refine wpAnyH_done (by kernel_rfl) ?_ _
      refine NoPanic.normal ?_
      go_wp2
      go_ret
      exact ⟨rfl, (below_drewN HBF.out 1).trans (HK6.out.below (fun _ h => h.elim) HSZ.out)⟩
theorem same_any {R : Nat → Prop} {G : Nat → Prop} (b : Nat) (v : Value) (l : List Msg) (room now : Int) (xv : Value) (X : List RM) (w : World) (h : SIn R w G b v l room xv X) :
    Calls Try.prog 14 #[.pointer (some ⟨b, 0, none⟩), xv, .int .i64 room, .int .i64 now] w fun e w' => e = .returned (.bool true) ∧ Below w.heap.size w w' := by
  cases l with
  | nil =>
    have hx : X = [] := List.eq_nil_of_length_eq_zero h.xlen
    subst hx
    exact same_nil b v room now xv w h
  | cons m t => exact same_cons b v m t room now xv X w h
end Go.Proofs.Ytijmmmgmpfhgoaa
