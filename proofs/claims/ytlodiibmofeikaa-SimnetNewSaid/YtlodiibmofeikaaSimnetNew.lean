/- simnet: the law SimnetNew. -/
import Derived.Test.YtlodiibmofeikaaNetAw
import Derived.Test.YtlodiibmofeikaaNetNewLaw
namespace Go.Proofs.Ytlodiibmofeikaa
open Go.RowKit
theorem simnetNew_any (rc delay room j lv : Int) (w : World) :
    Calls Try.prog 4 #[.agg #[.int .i64 rc, .int .i64 delay, .int .i64 room, .int .i64 j, .int .i64 lv]] w fun e w' => e = .returned (.bool true) ∧ Below w.heap.size w w' := simnetNew_of awake_any rc delay room j lv w
end Go.Proofs.Ytlodiibmofeikaa
