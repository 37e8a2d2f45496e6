/-
  No cell of these rows narrows 'for every input' (looked for: loops, veiled, ifaces, maps, wideKeys, modest, calm, conditions, laid).
  DERIVED. THE GIVEN ROWS OF THIS SEAT. 5 by the template 'for every input the law returns true; each argument reads behind the call as it read before'; 0 by the template 'total and deterministic' (their statements: YtddoefkojlghnaaTotals.lean).
  GIVEN WITH THE SEED: the statements are not yours to turn. If you find one false, say at which input.
  Laid BY PROGRAM, IN A SANDBOX (cutbox-rows.mjs): the forced cells as the released guide's own fill.sh prints them over the translation 5615514292670898… (all of the seat's roots in one cut). By AI agents, Wed Nov 11 2026. No macro, syntax, notation, axiom, sorry.
-/
import Derived.Test.YtddoefkojlghnaaChecked
import GoSem.Claim
import GoSem.ClaimJoined
import GoSem.ClaimMapViews
import Derived.JoinedTies
import Derived.KernelRfl
namespace Go.Proofs.Ytddoefkojlghnaa
/- THE CELL 'sum', in the pinned program and in every row, IS THE sha256 OF THE DUMP (.gsa) THAT YtddoefkojlghnaaProg.lean LOADS. Nothing in Lean hashes anything: it is a label: what it is worth is what the hold of that sum in a sandbox is worth. -/
noncomputable def Try.pinned : Pinned := { name := "ytddoefkojlghnaa", sum := "5615514292670898358768329afed1fe644f270f4612a6a2603e225ccc65c425", checked := Try.checked }
namespace Rows
def none {H : Type} : Left H := { results := [], args := [] }

/-- 'terracelaw08.RangesOf': WHATEVER THE INPUT: true; the input reads as it did. -/
def rangesOfSpec : ChangeSpec := { name := "rangesOf", fn := fun _ => fun
  | [d] => { results := [.lit (.bool true)], args := [d] }
  | _ => none }
def rangesOfRow : OpenClaim := { program := "ytddoefkojlghnaa", sum := "5615514292670898358768329afed1fe644f270f4612a6a2603e225ccc65c425", func := "terrace/terracelaw08.RangesOf", spec := "rangesOf", inPlace := ["slices.overlaps[[2]int]"], unfollowed := true, recurses := true, apart := false }
def RangesOfSaid : Prop := rangesOfRow.holds Try.pinned (OpenSpec.ofChange rangesOfSpec)

/-- ITS FALSE NEIGHBOUR: 'it returns false'. Refute it at one input. -/
def rangesOfWrong : ChangeSpec := { name := "rangesOf", fn := fun _ => fun
  | [d] => { results := [.lit (.bool false)], args := [d] }
  | _ => none }
def RangesOfWrongFalsely : Prop := rangesOfRow.holds Try.pinned (OpenSpec.ofChange rangesOfWrong)

/-- 'terracelaw08.RangesPlays': WHATEVER THE INPUT: true; the input reads as it did. -/
def rangesPlaysSpec : ChangeSpec := { name := "rangesPlays", fn := fun _ => fun
  | [d] => { results := [.lit (.bool true)], args := [d] }
  | _ => none }
def rangesPlaysRow : OpenClaim := { program := "ytddoefkojlghnaa", sum := "5615514292670898358768329afed1fe644f270f4612a6a2603e225ccc65c425", func := "terrace/terracelaw08.RangesPlays", spec := "rangesPlays", inPlace := ["slices.overlaps[[2]int]"], unfollowed := true, recurses := true, apart := false }
def RangesPlaysSaid : Prop := rangesPlaysRow.holds Try.pinned (OpenSpec.ofChange rangesPlaysSpec)

/-- ITS FALSE NEIGHBOUR: 'it returns false'. Refute it at one input. -/
def rangesPlaysWrong : ChangeSpec := { name := "rangesPlays", fn := fun _ => fun
  | [d] => { results := [.lit (.bool false)], args := [d] }
  | _ => none }
def RangesPlaysWrongFalsely : Prop := rangesPlaysRow.holds Try.pinned (OpenSpec.ofChange rangesPlaysWrong)

/-- 'terracelaw08.RangesHas': WHATEVER THE INPUT: true; the input reads as it did. -/
def rangesHasSpec : ChangeSpec := { name := "rangesHas", fn := fun _ => fun
  | [d1, d2] => { results := [.lit (.bool true)], args := [d1, d2] }
  | _ => none }
def rangesHasRow : OpenClaim := { program := "ytddoefkojlghnaa", sum := "5615514292670898358768329afed1fe644f270f4612a6a2603e225ccc65c425", func := "terrace/terracelaw08.RangesHas", spec := "rangesHas", inPlace := ["slices.overlaps[[2]int]"], unfollowed := true, recurses := true, apart := false }
def RangesHasSaid : Prop := rangesHasRow.holds Try.pinned (OpenSpec.ofChange rangesHasSpec)

/-- ITS FALSE NEIGHBOUR: 'it returns false'. Refute it at one input. -/
def rangesHasWrong : ChangeSpec := { name := "rangesHas", fn := fun _ => fun
  | [d1, d2] => { results := [.lit (.bool false)], args := [d1, d2] }
  | _ => none }
def RangesHasWrongFalsely : Prop := rangesHasRow.holds Try.pinned (OpenSpec.ofChange rangesHasWrong)

/-- 'terracelaw08.RangesAll': WHATEVER THE INPUT: true; the input reads as it did. -/
def rangesAllSpec : ChangeSpec := { name := "rangesAll", fn := fun _ => fun
  | [d1, d2, d3] => { results := [.lit (.bool true)], args := [d1, d2, d3] }
  | _ => none }
def rangesAllRow : OpenClaim := { program := "ytddoefkojlghnaa", sum := "5615514292670898358768329afed1fe644f270f4612a6a2603e225ccc65c425", func := "terrace/terracelaw08.RangesAll", spec := "rangesAll", inPlace := ["slices.overlaps[[2]int]"], unfollowed := true, recurses := true, apart := false }
def RangesAllSaid : Prop := rangesAllRow.holds Try.pinned (OpenSpec.ofChange rangesAllSpec)

/-- ITS FALSE NEIGHBOUR: 'it returns false'. Refute it at one input. -/
def rangesAllWrong : ChangeSpec := { name := "rangesAll", fn := fun _ => fun
  | [d1, d2, d3] => { results := [.lit (.bool false)], args := [d1, d2, d3] }
  | _ => none }
def RangesAllWrongFalsely : Prop := rangesAllRow.holds Try.pinned (OpenSpec.ofChange rangesAllWrong)

/-- 'terracelaw08.RangesGaps': WHATEVER THE INPUT: true; the input reads as it did. -/
def rangesGapsSpec : ChangeSpec := { name := "rangesGaps", fn := fun _ => fun
  | [d1, d2, d3] => { results := [.lit (.bool true)], args := [d1, d2, d3] }
  | _ => none }
def rangesGapsRow : OpenClaim := { program := "ytddoefkojlghnaa", sum := "5615514292670898358768329afed1fe644f270f4612a6a2603e225ccc65c425", func := "terrace/terracelaw08.RangesGaps", spec := "rangesGaps", inPlace := ["slices.overlaps[[2]int]"], unfollowed := true, recurses := true, apart := false }
def RangesGapsSaid : Prop := rangesGapsRow.holds Try.pinned (OpenSpec.ofChange rangesGapsSpec)

/-- ITS FALSE NEIGHBOUR: 'it returns false'. Refute it at one input. -/
def rangesGapsWrong : ChangeSpec := { name := "rangesGaps", fn := fun _ => fun
  | [d1, d2, d3] => { results := [.lit (.bool false)], args := [d1, d2, d3] }
  | _ => none }
def RangesGapsWrongFalsely : Prop := rangesGapsRow.holds Try.pinned (OpenSpec.ofChange rangesGapsWrong)

/- THE SECOND FORM. 'bulk': how many values and letters a reading holds, each counted each time it is reached (what is shared counts as often as it is met; a slice's spare places count too). A statement '..UptoSaid' is the law's where the arguments, and the package variables that the reading takes, are together of bulk at most 1048576: NARROWER than '..Said'. Prove '..Said' where nothing that the law and all that it calls make is longer than what came in: it says more and counts as full. Else prove '..UptoSaid'. A law counts once. -/
mutual
def uptoBulk {H : Type} : DataW H → Nat
  | .lit (.string bytes) => bytes.length + 1
  | .lit _ => 1
  | .nil => 1
  | .ptr d => uptoBulk d + 1
  | .slice elems spare => uptoBulkAll elems + uptoBulkAll spare + 1
  | .agg parts => uptoBulkAll parts + 1
  | .iface _ d => uptoBulk d + 1
  | .map entries => uptoBulkEntries entries + 1
  | .held _ => 1
def uptoBulkAll {H : Type} : List (DataW H) → Nat
  | [] => 0
  | d :: r => uptoBulk d + uptoBulkAll r
def uptoBulkEntries {H : Type} : List (Lit × DataW H) → Nat
  | [] => 0
  | x :: r => uptoBulkEntry x + uptoBulkEntries r
def uptoBulkEntry {H : Type} : Lit × DataW H → Nat
  | (.string bytes, d) => bytes.length + uptoBulk d + 1
  | (_, d) => uptoBulk d + 1
 end
def uptoSmall : (H : Type) → List (DataW H) → Bool := fun _ ds => decide (uptoBulkAll ds ≤ 1048576)
def OpenSpec.upto (s : _root_.Go.ChangeSpec) : _root_.Go.OpenSpec := { _root_.Go.OpenSpec.ofChange s with cond := some uptoSmall }

/-- 'terracelaw08.RangesOf', WHERE WHAT IT READS IS OF BULK AT MOST 1048576: true; the input reads as it did. -/
def rangesOfUptoRow : OpenClaim := { program := "ytddoefkojlghnaa", sum := "5615514292670898358768329afed1fe644f270f4612a6a2603e225ccc65c425", func := "terrace/terracelaw08.RangesOf", spec := "rangesOf", inPlace := ["slices.overlaps[[2]int]"], unfollowed := true, recurses := true, apart := false, narrowed := true }
def RangesOfUptoSaid : Prop := rangesOfUptoRow.holds Try.pinned (OpenSpec.upto rangesOfSpec)

/-- 'terracelaw08.RangesPlays', WHERE WHAT IT READS IS OF BULK AT MOST 1048576: true; the input reads as it did. -/
def rangesPlaysUptoRow : OpenClaim := { program := "ytddoefkojlghnaa", sum := "5615514292670898358768329afed1fe644f270f4612a6a2603e225ccc65c425", func := "terrace/terracelaw08.RangesPlays", spec := "rangesPlays", inPlace := ["slices.overlaps[[2]int]"], unfollowed := true, recurses := true, apart := false, narrowed := true }
def RangesPlaysUptoSaid : Prop := rangesPlaysUptoRow.holds Try.pinned (OpenSpec.upto rangesPlaysSpec)

/-- 'terracelaw08.RangesHas', WHERE WHAT IT READS IS OF BULK AT MOST 1048576: true; the input reads as it did. -/
def rangesHasUptoRow : OpenClaim := { program := "ytddoefkojlghnaa", sum := "5615514292670898358768329afed1fe644f270f4612a6a2603e225ccc65c425", func := "terrace/terracelaw08.RangesHas", spec := "rangesHas", inPlace := ["slices.overlaps[[2]int]"], unfollowed := true, recurses := true, apart := false, narrowed := true }
def RangesHasUptoSaid : Prop := rangesHasUptoRow.holds Try.pinned (OpenSpec.upto rangesHasSpec)

/-- 'terracelaw08.RangesAll', WHERE WHAT IT READS IS OF BULK AT MOST 1048576: true; the input reads as it did. -/
def rangesAllUptoRow : OpenClaim := { program := "ytddoefkojlghnaa", sum := "5615514292670898358768329afed1fe644f270f4612a6a2603e225ccc65c425", func := "terrace/terracelaw08.RangesAll", spec := "rangesAll", inPlace := ["slices.overlaps[[2]int]"], unfollowed := true, recurses := true, apart := false, narrowed := true }
def RangesAllUptoSaid : Prop := rangesAllUptoRow.holds Try.pinned (OpenSpec.upto rangesAllSpec)

/-- 'terracelaw08.RangesGaps', WHERE WHAT IT READS IS OF BULK AT MOST 1048576: true; the input reads as it did. -/
def rangesGapsUptoRow : OpenClaim := { program := "ytddoefkojlghnaa", sum := "5615514292670898358768329afed1fe644f270f4612a6a2603e225ccc65c425", func := "terrace/terracelaw08.RangesGaps", spec := "rangesGaps", inPlace := ["slices.overlaps[[2]int]"], unfollowed := true, recurses := true, apart := false, narrowed := true }
def RangesGapsUptoSaid : Prop := rangesGapsUptoRow.holds Try.pinned (OpenSpec.upto rangesGapsSpec)

end Rows
end Go.Proofs.Ytddoefkojlghnaa
