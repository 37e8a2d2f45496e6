/- simnet: right, where it says no. -/
import Derived.Test.YtlodiibmofeikaaQNetLaw
namespace Go.Proofs.Ytlodiibmofeikaa
open Go.RowKit
set_option linter.unusedVariables false
set_option linter.unusedSimpArgs false

set_option maxRecDepth 100000 in
set_option maxHeartbeats 4000000 in
theorem right_no (rc delay room j lv : Int) (w : World) (h : ¬ CfgOk rc delay room j lv) :
    Calls Try.prog 13 #[.agg #[.int .i64 rc, .int .i64 delay, .int .i64 room, .int .i64 j, .int .i64 lv]] w fun e w' => e = .returned (.bool false) ∧ Below w.heap.size w w' := by
  have HB := Lib.hid ((Below.refl _ w).alloc (Nat.le_refl _) (.cells #[.int .i64 rc, .int .i64 delay, .int .i64 room, .int .i64 j, .int .i64 lv] 30))
  obtain ⟨y0, y1, y2, y3, y4⟩ := blk5' (Blk.new w #[.int .i64 rc, .int .i64 delay, .int .i64 room, .int .i64 j, .int .i64 lv] 30)
  have hc : rc < 1 ∨ (1 ≤ rc ∧ 64 < rc) ∨ (1 ≤ rc ∧ rc ≤ 64 ∧ j < 0) ∨ (1 ≤ rc ∧ rc ≤ 64 ∧ 0 ≤ j ∧ 64 < j) ∨ (1 ≤ rc ∧ rc ≤ 64 ∧ 0 ≤ j ∧ j ≤ 64 ∧ lv < 0) ∨ (1 ≤ rc ∧ rc ≤ 64 ∧ 0 ≤ j ∧ j ≤ 64 ∧ 0 ≤ lv ∧ 64 < lv) ∨ (1 ≤ rc ∧ rc ≤ 64 ∧ 0 ≤ j ∧ j ≤ 64 ∧ 0 ≤ lv ∧ lv ≤ 64 ∧ room < 1)
      ∨ (1 ≤ rc ∧ rc ≤ 64 ∧ 0 ≤ j ∧ j ≤ 64 ∧ 0 ≤ lv ∧ lv ≤ 64 ∧ 1 ≤ room ∧ 256 < room) ∨ (1 ≤ rc ∧ rc ≤ 64 ∧ 0 ≤ j ∧ j ≤ 64 ∧ 0 ≤ lv ∧ lv ≤ 64 ∧ 1 ≤ room ∧ room ≤ 256 ∧ delay < 0) ∨ (1 ≤ rc ∧ rc ≤ 64 ∧ 0 ≤ j ∧ j ≤ 64 ∧ 0 ≤ lv ∧ lv ≤ 64 ∧ 1 ≤ room ∧ room ≤ 256 ∧ 0 ≤ delay ∧ 64 < delay) := by
    by_cases b1 : 1 ≤ rc
    · by_cases b2 : rc ≤ 64
      · by_cases b3 : 0 ≤ j
        · by_cases b4 : j ≤ 64
          · by_cases b5 : 0 ≤ lv
            · by_cases b6 : lv ≤ 64
              · by_cases b7 : 1 ≤ room
                · by_cases b8 : room ≤ 256
                  · by_cases b9 : 0 ≤ delay
                    · by_cases b10 : delay ≤ 64
                      · exact absurd (⟨⟨b1, b2⟩, ⟨b9, b10⟩, ⟨b7, b8⟩, ⟨b3, b4⟩, ⟨b5, b6⟩⟩ : CfgOk rc delay room j lv) h
                      · exact .inr (.inr (.inr (.inr (.inr (.inr (.inr (.inr (.inr ⟨b1, b2, b3, b4, b5, b6, b7, b8, b9, Int.not_le.1 b10⟩))))))))
                    · exact .inr (.inr (.inr (.inr (.inr (.inr (.inr (.inr (.inl ⟨b1, b2, b3, b4, b5, b6, b7, b8, Int.not_le.1 b9⟩))))))))
                  · exact .inr (.inr (.inr (.inr (.inr (.inr (.inr (.inl ⟨b1, b2, b3, b4, b5, b6, b7, Int.not_le.1 b8⟩)))))))
                · exact .inr (.inr (.inr (.inr (.inr (.inr (.inl ⟨b1, b2, b3, b4, b5, b6, Int.not_le.1 b7⟩))))))
              · exact .inr (.inr (.inr (.inr (.inr (.inl ⟨b1, b2, b3, b4, b5, Int.not_le.1 b6⟩)))))
            · exact .inr (.inr (.inr (.inr (.inl ⟨b1, b2, b3, b4, Int.not_le.1 b5⟩))))
          · exact .inr (.inr (.inr (.inl ⟨b1, b2, b3, Int.not_le.1 b4⟩)))
        · exact .inr (.inr (.inl ⟨b1, b2, Int.not_le.1 b3⟩))
      · exact .inr (.inl ⟨b1, Int.not_le.1 b2⟩)
    · exact .inl (Int.not_le.1 b1)
  clear h
  rcases hc with h | ⟨h1, h⟩ | ⟨h1, h2, h⟩ | ⟨h1, h2, h3, h⟩ | ⟨h1, h2, h3, h4, h⟩ | ⟨h1, h2, h3, h4, h5, h⟩ | ⟨h1, h2, h3, h4, h5, h6, h⟩ | ⟨h1, h2, h3, h4, h5, h6, h7, h⟩ | ⟨h1, h2, h3, h4, h5, h6, h7, h8, h⟩ | ⟨h1, h2, h3, h4, h5, h6, h7, h8, h9, h⟩
  all_goals
    go_enter Try.func13, Try.ntmps13
    go_wp2
    go_ret
    exact ⟨by first | rfl | (simp; done) | (simp; omega), HB.out⟩
end Go.Proofs.Ytlodiibmofeikaa
