import Derived.Test.YtlhocjimghcmjaaClone
namespace Go.Proofs.Ytlhocjimghcmjaa
open Go.RowKit
set_option linter.unusedVariables false
set_option linter.unusedSimpArgs false

/-! ### the plain side -/
def stp (f m : Int) : Nat → Int → Int
  | 0, x => x
  | k + 1, x => stp f m k ((x * f + m) % 4294967296)

theorem mod_l (a b c : Int) : (a % 4294967296 * b + c) % 4294967296 = (a * b + c) % 4294967296 := by
  rw [Int.add_emod, Int.mul_emod, Int.emod_emod, ← Int.mul_emod, ← Int.add_emod]
theorem mod_r (a b c : Int) : (a * (b % 4294967296) + c % 4294967296) % 4294967296 = (a * b + c) % 4294967296 := by
  rw [Int.add_emod, Int.mul_emod, Int.emod_emod, Int.emod_emod, ← Int.mul_emod, ← Int.add_emod]
theorem stp_two (f m : Int) : ∀ (j : Nat) (x : Int), stp f m (2 * j) x = stp ((f * f) % 4294967296) ((m + (m * f) % 4294967296) % 4294967296) j x
  | 0, _ => rfl
  | j + 1, x => by
    rw [show 2 * (j + 1) = 2 * j + 1 + 1 from rfl]
    simp only [stp]
    rw [stp_two f m j]
    congr 1
    rw [mod_l, mod_r]
    have e : ∀ u v : Int, (u + (m + (m * f) % 4294967296)) % 4294967296 = (u + (m + m * f)) % 4294967296 := by intro u v; omega
    rw [e _ 0, Int.add_mul, Int.mul_assoc]
    congr 1
    omega

/-- the draw with a number -/
def drawAt (l : List Int) (i : Nat) : Int := if i < l.length then l.getD i 0 else stp 1664525 1013904223 (i - l.length + 1) (l.getLastD 0)

/-! ### the walks -/
def DrawsAt (w : World) (F : Nat → Prop) (b : Nat) (l : List Int) (t : Int) : Prop :=
  ∃ v, Blk w b #[v, .int .i64 t] 47 ∧ w.ownsRow 0 27 1 v l.length (l.map (Value.int .u32)) ∧ F b ∧ ∀ g, v.ownBlock = some g → F g ∧ g ≠ b
theorem DrawsAt.keep {S F : Nat → Prop} {w w' : World} {b : Nat} {l : List Int} {t : Int} (h : DrawsAt w F b l t) (hk : Keep S w w') (hn : ∀ k, F k → ¬ S k) : DrawsAt w' F b l t := by
  obtain ⟨v, h1, h2, h3, h4⟩ := h
  exact ⟨v, h1.keep hk (hn _ h3), ownsRow_keep h2 hk (fun g hg => hn _ (h4 g hg).1), h3, h4⟩

def U32 (l : List Int) : Prop := ∀ x ∈ l, 0 ≤ x ∧ x < 4294967296

theorem stp_even {f m x R : Int} {k : Nat} (h : k % 2 = 0) (e : stp f m k x = R) : Hid (stp ((f * f) % 4294967296) ((m + (m * f) % 4294967296) % 4294967296) (k / 2) x = R) := by
  show _ = _
  rw [← stp_two, show 2 * (k / 2) = k by omega]; exact e
theorem stp_odd {f m x R : Int} {k : Nat} (h : k % 2 = 1) (e : stp f m k x = R) : Hid (stp ((f * f) % 4294967296) ((m + (m * f) % 4294967296) % 4294967296) (k / 2) (((x * f) % 4294967296 + m) % 4294967296) = R) := by
  show _ = _
  rw [← stp_two]
  obtain ⟨j, rfl⟩ : ∃ j, k = j + 1 := ⟨k - 1, by omega⟩
  rw [show 2 * ((j + 1) / 2) = j by omega, ← e]
  simp only [stp]
  congr 1
  omega

set_option maxRecDepth 100000 in
theorem new_any (v : Value) (l : List Int) (w : World) (h : Reads w 1 v l.length (l.map (Value.int .u32))) (hn : l.length * 4 ≤ 140737488351232) :
    Calls Try.prog 8 #[v] w fun e w' => ∃ b, e = .returned (.pointer (some ⟨b, 0, none⟩)) ∧ DrawsAt w' (Btw w.heap.size w'.heap.size) b l 0 ∧ Below w.heap.size w w' := by
  have hc := clone_u32 v l.length _ w h hn (by simp; intro x _; rfl)
  go_enter Try.func8, Try.ntmps8
  go_wp2_with (go_at_call 16; refine hc.mono ?_; rintro e w1 ⟨A1, c1, rfl, hown, hb, -⟩)
  go_ret
  have hs := hb.size
  refine ⟨w1.heap.size, rfl, ⟨_, Blk.new _ _ _, ownsRow_base (hown.alloc _) (Nat.zero_le _), ⟨hs, by simp⟩, fun g hg => ?_⟩, hb.alloc hs _⟩
  have := hown.lt g hg
  exact ⟨⟨this.1, by simp; omega⟩, by omega⟩

set_option maxRecDepth 100000 in
theorem of_any (b : Nat) (F : Nat → Prop) (l : List Int) (t : Int) (i : Nat) (w : World) (h : DrawsAt w F b l t) (hi : i ≤ 65536) (hl : l.length ≤ 1000) :
    Calls Try.prog 17 #[.pointer (some ⟨b, 0, none⟩), .int .i64 i] w fun e w' => e = .returned (.int .u32 (drawAt l i)) ∧ ∃ k, w' = w.drewN k := by
  obtain ⟨v, h1, h2, -, -⟩ := h
  have h0 := h1.cell 0 (by rfl)
  obtain ⟨A, c, rfl⟩ := ownsRow_slice h2
  rcases (by cases l <;> simp : l = [] ∨ 0 < l.length) with rfl | hp
  · obtain ⟨R, hR⟩ : ∃ R, R = drawAt [] i := ⟨_, rfl⟩
    have HV := Lib.hid hR
    have HR : Hid (stp 1664525 1013904223 (i + 1) 0 = R) := by rw [hR]; rfl
    clear h1 h2 hR
    go_enter Try.func17, Try.ntmps17
    go_wp2
    go_loop [5, 6, 7, 8] (fun x f m n => ∃ (k : Nat) (x' f' m' : Int), x = .int .u32 x' ∧ f = .int .u32 f' ∧ m = .int .u32 m' ∧ n = .int .i64 k ∧ k ≤ 70000 ∧ Hid (stp f' m' k x' = R)) (fun _ _ _ n => (intOf n).toNat)
    case atStart => exact ⟨i + 1, _, _, _, rfl, rfl, rfl, by first | rfl | go_num, by omega, HR⟩
    case round =>
      obtain ⟨k, x', f', m', rfl, rfl, rfl, rfl, hk, HS⟩ := hrel
      by_cases hk0 : 0 < k
      · by_cases hodd : k % 2 = 1
        · have ho : ((k : Int) % 2 == 1) = true := by rw [beq_iff_eq]; omega
          go_wp2
          go_round
          case rel => exact ⟨k / 2, _, _, _, rfl, rfl, rfl, by go_num, by omega, stp_odd hodd HS.out⟩
          case measure => simp [intOf]; omega
        · have ho : ((k : Int) % 2 == 1) = false := by rw [beq_eq_false_iff_ne]; omega
          go_wp2
          go_round
          case rel => exact ⟨k / 2, _, _, _, rfl, rfl, rfl, by go_num, by omega, stp_even (by omega) HS.out⟩
          case measure => simp [intOf]; omega
      · obtain rfl : k = 0 := by omega
        have hx : x' = R := HS.out
        subst hx
        go_wp2
        go_ret
        exact ⟨by rw [HV.out]; rfl, 0, rfl⟩
  · rcases h2.2 with ⟨hv, hn⟩ | ⟨g, cap, cur, hv, hg, hh, h3, h4, h5, h6⟩
    · omega
    cases hv
    have hcell : ∀ j, j < l.length → w.cell? ⟨g, j, none⟩ = some (.int .u32 (l.getD j 0)) := fun j hj => by
      rw [cell_of_row w g j cur _ (0, 0) hh]
      have : (l.map (Value.int .u32))[j]? = some (.int .u32 (l.getD j 0)) := by simp [hj]
      rw [← h6, List.getElem?_take] at this
      split at this
      · simpa using this
      · cases this
    obtain ⟨R, hR⟩ : ∃ R, R = drawAt l i := ⟨_, rfl⟩
    have HV := Lib.hid hR
    by_cases hil : i < l.length
    · have hc := hcell i hil
      rw [show l.getD i 0 = R from by rw [hR]; unfold drawAt; rw [if_pos hil]] at hc
      clear h1 h2 hh h5 h6 hcell hR
      go_enter Try.func17, Try.ntmps17
      go_wp2
      go_ret
      exact ⟨by rw [HV.out]; rfl, 0, rfl⟩
    · obtain ⟨X, hX⟩ : ∃ X, X = l.getD (l.length - 1) 0 := ⟨_, rfl⟩
      have hc := hcell (l.length - 1) (by omega)
      rw [← hX] at hc
      have HR : Hid (stp 1664525 1013904223 (i - l.length + 1) X = R) := by
        show _ = _
        rw [hR, hX]; unfold drawAt; rw [if_neg hil]
        congr 1
        rw [List.getLastD_eq_getLast?, List.getLast?_eq_getElem?]; simp
      clear h1 h2 hh h5 h6 hR hX hcell
      go_enter Try.func17, Try.ntmps17
      go_wp2
      go_quiet (fail)
      go_wp2
      go_loop [5, 6, 7, 8] (fun x f m n => ∃ (k : Nat) (x' f' m' : Int), x = .int .u32 x' ∧ f = .int .u32 f' ∧ m = .int .u32 m' ∧ n = .int .i64 k ∧ k ≤ 70000 ∧ Hid (stp f' m' k x' = R)) (fun _ _ _ n => (intOf n).toNat)
      case atStart => exact ⟨i - l.length + 1, _, _, _, rfl, rfl, rfl, by first | rfl | go_num, by omega, HR⟩
      case round =>
        obtain ⟨k, x', f', m', rfl, rfl, rfl, rfl, hk, HS⟩ := hrel
        by_cases hk0 : 0 < k
        · by_cases hodd : k % 2 = 1
          · have ho : ((k : Int) % 2 == 1) = true := by rw [beq_iff_eq]; omega
            go_wp2
            go_round
            case rel => exact ⟨k / 2, _, _, _, rfl, rfl, rfl, by go_num, by omega, stp_odd hodd HS.out⟩
            case measure => simp [intOf]; omega
          · have ho : ((k : Int) % 2 == 1) = false := by rw [beq_eq_false_iff_ne]; omega
            go_wp2
            go_round
            case rel => exact ⟨k / 2, _, _, _, rfl, rfl, rfl, by go_num, by omega, stp_even (by omega) HS.out⟩
            case measure => simp [intOf]; omega
        · obtain rfl : k = 0 := by omega
          have hx : x' = R := HS.out
          subst hx
          go_wp2
          go_ret
          exact ⟨by rw [HV.out]; rfl, _, rfl⟩
end Go.Proofs.Ytlhocjimghcmjaa
