/- simnet: the law's step, whatever the call. -/
import Derived.Test.YtlodiibmofeikaaQNetStep1
import Derived.Test.YtlodiibmofeikaaQNetStep1Y
import Derived.Test.YtlodiibmofeikaaQNetStep2N1
import Derived.Test.YtlodiibmofeikaaQNetStep2N2
import Derived.Test.YtlodiibmofeikaaQNetStep2N3
import Derived.Test.YtlodiibmofeikaaQNetStep2Y
import Derived.Test.YtlodiibmofeikaaQNetStep3
import Derived.Test.YtlodiibmofeikaaQNetStep3Y
import Derived.Test.YtlodiibmofeikaaQNetStep4
import Derived.Test.YtlodiibmofeikaaQNetStep4N
import Derived.Test.YtlodiibmofeikaaQNetStep5
namespace Go.Proofs.Ytlodiibmofeikaa
open Go.RowKit Go.Shelf
set_option linter.unusedVariables false
set_option linter.unusedSimpArgs false

theorem step_any (w : World) {col : Nat → Nat} {nb n : Nat} {delay room j lv : Int} {F : List FD} {m : MD} {k : Nat} {t : Int} (h : NM w col nb n delay room j lv F m k t) (hk : k < 1000) (now : Int) (ht : t ≤ now ∧ now ≤ t + 100) (kd r level later : Int) (tA : Option Addr) (tn tc : Nat) (bs : List Int) (hx : Reads w 1 (.slice tA tn tc) tn (u8s bs)) (hbs : bs.length = tn) (hbt : BtsI bs) (hxo : ∀ g, (Value.slice tA tn tc).ownBlock = some g → 0 < tn → col g = 0 ∧ g < w.heap.size) :
    Calls Try.prog 19 #[.agg (modC m), .pointer (some ⟨nb, 0, none⟩), .agg #[.int .i64 kd, .int .i64 r, .int .i64 level, .int .i64 later, .slice tA tn tc], .int .i64 now] w fun e w' => ∃ m', e = .returned (.tuple #[.agg (modC m'), .bool true]) ∧ SR w w' col nb n delay room j lv F m' (k + 1) now := by
  by_cases k1 : kd = 1
  · subst k1
    by_cases g : 0 ≤ r ∧ r < (n : Int) ∧ -1 ≤ level ∧ level ≤ 7
    · exact step_1y w h hk now ht r level later tA tn tc bs hx hbs hbt hxo g.1 g.2.1 g.2.2.1 g.2.2.2
    · exact step_1n w h hk now ht r level later tA tn tc bs hx hbs hbt hxo g
  by_cases k2 : kd = 2
  · subst k2
    by_cases g : 0 ≤ level ∧ level ≤ 7 ∧ tn ≤ 320
    · exact step_2y w h hk now ht r level later tA tn tc bs hx hbs hbt hxo g.1 g.2.1 g.2.2
    · by_cases e1 : level < 0
      · exact step_2n1 w h hk now ht r level later tA tn tc bs hx hbs hbt hxo e1
      · by_cases e2 : 7 < level
        · exact step_2n2 w h hk now ht r level later tA tn tc bs hx hbs hbt hxo (by omega) e2
        · exact step_2n3 w h hk now ht r level later tA tn tc bs hx hbs hbt hxo (by omega) (by omega) (by omega)
  by_cases k3 : kd = 3
  · subst k3
    by_cases g : 0 ≤ r ∧ r < (n : Int) ∧ tn ≤ 320
    · exact step_3y w h hk now ht r level later tA tn tc bs hx hbs hbt hxo g.1 g.2.1 g.2.2
    · exact step_3n w h hk now ht r level later tA tn tc bs hx hbs hbt hxo (by omega)
  by_cases k4 : kd = 4
  · subst k4
    by_cases g : 0 ≤ r ∧ r < (n : Int)
    · exact step_4y w h hk now ht r level later tA tn tc bs hx hbs hbt hxo g.1 g.2
    · exact step_4n w h hk now ht r level later tA tn tc bs hx hbs hbt hxo (by omega)
  by_cases k5 : kd = 5
  · subst k5
    exact step_5 w h hk now ht r level later tA tn tc bs hx hbs hbt hxo
  · exact step_0 w h hk now ht kd r level later tA tn tc bs hx hbs hbt hxo (by simpa using k1) (by simpa using k2) (by simpa using k3) (by simpa using k4) (by simpa using k5)
end Go.Proofs.Ytlodiibmofeikaa
