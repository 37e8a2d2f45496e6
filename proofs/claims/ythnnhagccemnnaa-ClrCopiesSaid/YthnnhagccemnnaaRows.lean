/-
  No cell of these rows narrows 'for every input' (looked for: loops, veiled, ifaces, maps, wideKeys, modest, calm, conditions, laid).
  DERIVED. THE GIVEN ROWS OF THIS SEAT. 4 by the template 'for every input the law returns true; each argument reads behind the call as it read before'; 0 by the template 'total and deterministic' (their statements: YthnnhagccemnnaaTotals.lean).
  GIVEN WITH THE SEED: the statements are not yours to turn. If you find one false, say at which input.
  Laid BY PROGRAM, IN A SANDBOX (cutbox-rows.mjs): the forced cells as the released guide's own fill.sh prints them over the translation 6050e862f3b4cc6e… (all of the seat's roots in one cut). By AI agents, Wed Nov 11 2026. No macro, syntax, notation, axiom, sorry.
-/
import Derived.Test.YthnnhagccemnnaaChecked
import GoSem.Claim
import GoSem.ClaimJoined
import GoSem.ClaimMapViews
import Derived.JoinedTies
import Derived.KernelRfl
namespace Go.Proofs.Ythnnhagccemnnaa
/- THE CELL 'sum', in the pinned program and in every row, IS THE sha256 OF THE DUMP (.gsa) THAT YthnnhagccemnnaaProg.lean LOADS. Nothing in Lean hashes anything: it is a label: what it is worth is what the hold of that sum in a sandbox is worth. -/
noncomputable def Try.pinned : Pinned := { name := "ythnnhagccemnnaa", sum := "6050e862f3b4cc6efbee55c7f8a37823bc0e3b8af0fca29b294a4dc9bccbde25", checked := Try.checked }
namespace Rows
def none {H : Type} : Left H := { results := [], args := [] }

/-- 'terracelaw18.ClrHolds': WHATEVER THE INPUT: true; the input reads as it did. -/
def clrHoldsSpec : ChangeSpec := { name := "clrHolds", fn := fun _ => fun
  | [d1, d2] => { results := [.lit (.bool true)], args := [d1, d2] }
  | _ => none }
def clrHoldsRow : OpenClaim := { program := "ythnnhagccemnnaa", sum := "6050e862f3b4cc6efbee55c7f8a37823bc0e3b8af0fca29b294a4dc9bccbde25", func := "terrace/terracelaw18.ClrHolds", spec := "clrHolds", inPlace := ["slices.overlaps[terrace/clr.Told]"], unfollowed := true, recurses := true, apart := false }
def ClrHoldsSaid : Prop := clrHoldsRow.holds Try.pinned (OpenSpec.ofChange clrHoldsSpec)

/-- ITS FALSE NEIGHBOUR: 'it returns false'. Refute it at one input. -/
def clrHoldsWrong : ChangeSpec := { name := "clrHolds", fn := fun _ => fun
  | [d1, d2] => { results := [.lit (.bool false)], args := [d1, d2] }
  | _ => none }
def ClrHoldsWrongFalsely : Prop := clrHoldsRow.holds Try.pinned (OpenSpec.ofChange clrHoldsWrong)

/-- 'terracelaw18.ClrPasses': WHATEVER THE INPUT: true; the input reads as it did. -/
def clrPassesSpec : ChangeSpec := { name := "clrPasses", fn := fun _ => fun
  | [d1, d2, d3] => { results := [.lit (.bool true)], args := [d1, d2, d3] }
  | _ => none }
def clrPassesRow : OpenClaim := { program := "ythnnhagccemnnaa", sum := "6050e862f3b4cc6efbee55c7f8a37823bc0e3b8af0fca29b294a4dc9bccbde25", func := "terrace/terracelaw18.ClrPasses", spec := "clrPasses", inPlace := ["slices.overlaps[terrace/clr.Told]"], unfollowed := true, recurses := true, apart := false }
def ClrPassesSaid : Prop := clrPassesRow.holds Try.pinned (OpenSpec.ofChange clrPassesSpec)

/-- ITS FALSE NEIGHBOUR: 'it returns false'. Refute it at one input. -/
def clrPassesWrong : ChangeSpec := { name := "clrPasses", fn := fun _ => fun
  | [d1, d2, d3] => { results := [.lit (.bool false)], args := [d1, d2, d3] }
  | _ => none }
def ClrPassesWrongFalsely : Prop := clrPassesRow.holds Try.pinned (OpenSpec.ofChange clrPassesWrong)

/-- 'terracelaw18.ClrPlays': WHATEVER THE INPUT: true; the input reads as it did. -/
def clrPlaysSpec : ChangeSpec := { name := "clrPlays", fn := fun _ => fun
  | [d1, d2] => { results := [.lit (.bool true)], args := [d1, d2] }
  | _ => none }
def clrPlaysRow : OpenClaim := { program := "ythnnhagccemnnaa", sum := "6050e862f3b4cc6efbee55c7f8a37823bc0e3b8af0fca29b294a4dc9bccbde25", func := "terrace/terracelaw18.ClrPlays", spec := "clrPlays", inPlace := ["slices.overlaps[terrace/clr.Told]"], unfollowed := true, recurses := true, apart := false }
def ClrPlaysSaid : Prop := clrPlaysRow.holds Try.pinned (OpenSpec.ofChange clrPlaysSpec)

/-- ITS FALSE NEIGHBOUR: 'it returns false'. Refute it at one input. -/
def clrPlaysWrong : ChangeSpec := { name := "clrPlays", fn := fun _ => fun
  | [d1, d2] => { results := [.lit (.bool false)], args := [d1, d2] }
  | _ => none }
def ClrPlaysWrongFalsely : Prop := clrPlaysRow.holds Try.pinned (OpenSpec.ofChange clrPlaysWrong)

/-- 'terracelaw18.ClrCopies': WHATEVER THE INPUT: true; the input reads as it did. -/
def clrCopiesSpec : ChangeSpec := { name := "clrCopies", fn := fun _ => fun
  | [d1, d2, d3] => { results := [.lit (.bool true)], args := [d1, d2, d3] }
  | _ => none }
def clrCopiesRow : OpenClaim := { program := "ythnnhagccemnnaa", sum := "6050e862f3b4cc6efbee55c7f8a37823bc0e3b8af0fca29b294a4dc9bccbde25", func := "terrace/terracelaw18.ClrCopies", spec := "clrCopies", inPlace := ["slices.overlaps[terrace/clr.Told]"], unfollowed := true, recurses := true, apart := false }
def ClrCopiesSaid : Prop := clrCopiesRow.holds Try.pinned (OpenSpec.ofChange clrCopiesSpec)

/-- ITS FALSE NEIGHBOUR: 'it returns false'. Refute it at one input. -/
def clrCopiesWrong : ChangeSpec := { name := "clrCopies", fn := fun _ => fun
  | [d1, d2, d3] => { results := [.lit (.bool false)], args := [d1, d2, d3] }
  | _ => none }
def ClrCopiesWrongFalsely : Prop := clrCopiesRow.holds Try.pinned (OpenSpec.ofChange clrCopiesWrong)

/- THE SECOND FORM. 'bulk': how many values and letters a reading holds, each counted each time it is reached (what is shared counts as often as it is met; a slice's spare places count too). A statement '..UptoSaid' is the law's where the arguments, and the package variables that the reading takes, are together of bulk at most 1048576: NARROWER than '..Said'. Prove '..Said' where nothing that the law and all that it calls make is longer than what came in: it says more and counts as full. Else prove '..UptoSaid'. A law counts once. -/
mutual
def uptoBulk {H : Type} : DataW H → Nat
  | .lit (.string bytes) => bytes.length + 1
  | .lit _ => 1
  | .nil => 1
  | .ptr d => uptoBulk d + 1
  | .slice elems spare => uptoBulkAll elems + uptoBulkAll spare + 1
  | .agg parts => uptoBulkAll parts + 1
  | .iface _ d => uptoBulk d + 1
  | .map entries => uptoBulkEntries entries + 1
  | .held _ => 1
def uptoBulkAll {H : Type} : List (DataW H) → Nat
  | [] => 0
  | d :: r => uptoBulk d + uptoBulkAll r
def uptoBulkEntries {H : Type} : List (Lit × DataW H) → Nat
  | [] => 0
  | x :: r => uptoBulkEntry x + uptoBulkEntries r
def uptoBulkEntry {H : Type} : Lit × DataW H → Nat
  | (.string bytes, d) => bytes.length + uptoBulk d + 1
  | (_, d) => uptoBulk d + 1
 end
def uptoSmall : (H : Type) → List (DataW H) → Bool := fun _ ds => decide (uptoBulkAll ds ≤ 1048576)
def OpenSpec.upto (s : _root_.Go.ChangeSpec) : _root_.Go.OpenSpec := { _root_.Go.OpenSpec.ofChange s with cond := some uptoSmall }

/-- 'terracelaw18.ClrHolds', WHERE WHAT IT READS IS OF BULK AT MOST 1048576: true; the input reads as it did. -/
def clrHoldsUptoRow : OpenClaim := { program := "ythnnhagccemnnaa", sum := "6050e862f3b4cc6efbee55c7f8a37823bc0e3b8af0fca29b294a4dc9bccbde25", func := "terrace/terracelaw18.ClrHolds", spec := "clrHolds", inPlace := ["slices.overlaps[terrace/clr.Told]"], unfollowed := true, recurses := true, apart := false, narrowed := true }
def ClrHoldsUptoSaid : Prop := clrHoldsUptoRow.holds Try.pinned (OpenSpec.upto clrHoldsSpec)

/-- 'terracelaw18.ClrPasses', WHERE WHAT IT READS IS OF BULK AT MOST 1048576: true; the input reads as it did. -/
def clrPassesUptoRow : OpenClaim := { program := "ythnnhagccemnnaa", sum := "6050e862f3b4cc6efbee55c7f8a37823bc0e3b8af0fca29b294a4dc9bccbde25", func := "terrace/terracelaw18.ClrPasses", spec := "clrPasses", inPlace := ["slices.overlaps[terrace/clr.Told]"], unfollowed := true, recurses := true, apart := false, narrowed := true }
def ClrPassesUptoSaid : Prop := clrPassesUptoRow.holds Try.pinned (OpenSpec.upto clrPassesSpec)

/-- 'terracelaw18.ClrPlays', WHERE WHAT IT READS IS OF BULK AT MOST 1048576: true; the input reads as it did. -/
def clrPlaysUptoRow : OpenClaim := { program := "ythnnhagccemnnaa", sum := "6050e862f3b4cc6efbee55c7f8a37823bc0e3b8af0fca29b294a4dc9bccbde25", func := "terrace/terracelaw18.ClrPlays", spec := "clrPlays", inPlace := ["slices.overlaps[terrace/clr.Told]"], unfollowed := true, recurses := true, apart := false, narrowed := true }
def ClrPlaysUptoSaid : Prop := clrPlaysUptoRow.holds Try.pinned (OpenSpec.upto clrPlaysSpec)

/-- 'terracelaw18.ClrCopies', WHERE WHAT IT READS IS OF BULK AT MOST 1048576: true; the input reads as it did. -/
def clrCopiesUptoRow : OpenClaim := { program := "ythnnhagccemnnaa", sum := "6050e862f3b4cc6efbee55c7f8a37823bc0e3b8af0fca29b294a4dc9bccbde25", func := "terrace/terracelaw18.ClrCopies", spec := "clrCopies", inPlace := ["slices.overlaps[terrace/clr.Told]"], unfollowed := true, recurses := true, apart := false, narrowed := true }
def ClrCopiesUptoSaid : Prop := clrCopiesUptoRow.holds Try.pinned (OpenSpec.upto clrCopiesSpec)

end Rows
end Go.Proofs.Ythnnhagccemnnaa
