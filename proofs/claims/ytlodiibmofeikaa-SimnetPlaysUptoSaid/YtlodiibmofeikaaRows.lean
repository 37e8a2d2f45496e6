/-
  No cell of these rows narrows 'for every input' (looked for: loops, veiled, ifaces, maps, wideKeys, modest, calm, conditions, laid).
  DERIVED. THE GIVEN ROWS OF THIS SEAT. 4 by the template 'for every input the law returns true; each argument reads behind the call as it read before'; 0 by the template 'total and deterministic' (their statements: YtlodiibmofeikaaTotals.lean).
  GIVEN WITH THE SEED: the statements are not yours to turn. If you find one false, say at which input.
  Laid BY PROGRAM, IN A SANDBOX (cutbox-rows.mjs): the forced cells as the released guide's own fill.sh prints them over the translation 18077711bd17ea18… (all of the seat's roots in one cut). By AI agents, Wed Nov 11 2026. No macro, syntax, notation, axiom, sorry.
-/
import Derived.Test.YtlodiibmofeikaaChecked
import GoSem.Claim
import GoSem.ClaimJoined
import GoSem.ClaimMapViews
import Derived.JoinedTies
import Derived.KernelRfl
namespace Go.Proofs.Ytlodiibmofeikaa
/- THE CELL 'sum', in the pinned program and in every row, IS THE sha256 OF THE DUMP (.gsa) THAT YtlodiibmofeikaaProg.lean LOADS. Nothing in Lean hashes anything: it is a label: what it is worth is what the hold of that sum in a sandbox is worth. -/
noncomputable def Try.pinned : Pinned := { name := "ytlodiibmofeikaa", sum := "18077711bd17ea18394b940cba61be0a252a0299a753496baa6cf3d36d97ae9b", checked := Try.checked }
namespace Rows
def none {H : Type} : Left H := { results := [], args := [] }

/-- 'terracelaw13.SimnetFates': WHATEVER THE INPUT: true; the input reads as it did. -/
def simnetFatesSpec : ChangeSpec := { name := "simnetFates", fn := fun _ => fun
  | [d1, d2] => { results := [.lit (.bool true)], args := [d1, d2] }
  | _ => none }
def simnetFatesRow : OpenClaim := { program := "ytlodiibmofeikaa", sum := "18077711bd17ea18394b940cba61be0a252a0299a753496baa6cf3d36d97ae9b", func := "terrace/terracelaw13.SimnetFates", spec := "simnetFates", inPlace := ["slices.overlaps[terrace/pipe.message]"], unfollowed := true, recurses := true, apart := false }
def SimnetFatesSaid : Prop := simnetFatesRow.holds Try.pinned (OpenSpec.ofChange simnetFatesSpec)

/-- ITS FALSE NEIGHBOUR: 'it returns false'. Refute it at one input. -/
def simnetFatesWrong : ChangeSpec := { name := "simnetFates", fn := fun _ => fun
  | [d1, d2] => { results := [.lit (.bool false)], args := [d1, d2] }
  | _ => none }
def SimnetFatesWrongFalsely : Prop := simnetFatesRow.holds Try.pinned (OpenSpec.ofChange simnetFatesWrong)

/-- 'terracelaw13.SimnetNew': WHATEVER THE INPUT: true; the input reads as it did. -/
def simnetNewSpec : ChangeSpec := { name := "simnetNew", fn := fun _ => fun
  | [d] => { results := [.lit (.bool true)], args := [d] }
  | _ => none }
def simnetNewRow : OpenClaim := { program := "ytlodiibmofeikaa", sum := "18077711bd17ea18394b940cba61be0a252a0299a753496baa6cf3d36d97ae9b", func := "terrace/terracelaw13.SimnetNew", spec := "simnetNew", inPlace := ["slices.overlaps[terrace/pipe.message]"], unfollowed := true, recurses := true, apart := false }
def SimnetNewSaid : Prop := simnetNewRow.holds Try.pinned (OpenSpec.ofChange simnetNewSpec)

/-- ITS FALSE NEIGHBOUR: 'it returns false'. Refute it at one input. -/
def simnetNewWrong : ChangeSpec := { name := "simnetNew", fn := fun _ => fun
  | [d] => { results := [.lit (.bool false)], args := [d] }
  | _ => none }
def SimnetNewWrongFalsely : Prop := simnetNewRow.holds Try.pinned (OpenSpec.ofChange simnetNewWrong)

/-- 'terracelaw13.SimnetPlays': WHATEVER THE INPUT: true; the input reads as it did. -/
def simnetPlaysSpec : ChangeSpec := { name := "simnetPlays", fn := fun _ => fun
  | [d] => { results := [.lit (.bool true)], args := [d] }
  | _ => none }
def simnetPlaysRow : OpenClaim := { program := "ytlodiibmofeikaa", sum := "18077711bd17ea18394b940cba61be0a252a0299a753496baa6cf3d36d97ae9b", func := "terrace/terracelaw13.SimnetPlays", spec := "simnetPlays", inPlace := ["slices.overlaps[terrace/pipe.message]"], unfollowed := true, recurses := true, apart := false }
def SimnetPlaysSaid : Prop := simnetPlaysRow.holds Try.pinned (OpenSpec.ofChange simnetPlaysSpec)

/-- ITS FALSE NEIGHBOUR: 'it returns false'. Refute it at one input. -/
def simnetPlaysWrong : ChangeSpec := { name := "simnetPlays", fn := fun _ => fun
  | [d] => { results := [.lit (.bool false)], args := [d] }
  | _ => none }
def SimnetPlaysWrongFalsely : Prop := simnetPlaysRow.holds Try.pinned (OpenSpec.ofChange simnetPlaysWrong)

/-- 'terracelaw13.SimnetCopies': WHATEVER THE INPUT: true; the input reads as it did. -/
def simnetCopiesSpec : ChangeSpec := { name := "simnetCopies", fn := fun _ => fun
  | [d1, d2] => { results := [.lit (.bool true)], args := [d1, d2] }
  | _ => none }
def simnetCopiesRow : OpenClaim := { program := "ytlodiibmofeikaa", sum := "18077711bd17ea18394b940cba61be0a252a0299a753496baa6cf3d36d97ae9b", func := "terrace/terracelaw13.SimnetCopies", spec := "simnetCopies", inPlace := ["slices.overlaps[terrace/pipe.message]"], unfollowed := true, recurses := true, apart := false }
def SimnetCopiesSaid : Prop := simnetCopiesRow.holds Try.pinned (OpenSpec.ofChange simnetCopiesSpec)

/-- ITS FALSE NEIGHBOUR: 'it returns false'. Refute it at one input. -/
def simnetCopiesWrong : ChangeSpec := { name := "simnetCopies", fn := fun _ => fun
  | [d1, d2] => { results := [.lit (.bool false)], args := [d1, d2] }
  | _ => none }
def SimnetCopiesWrongFalsely : Prop := simnetCopiesRow.holds Try.pinned (OpenSpec.ofChange simnetCopiesWrong)

/- THE SECOND FORM. 'bulk': how many values and letters a reading holds, each counted each time it is reached (what is shared counts as often as it is met; a slice's spare places count too). A statement '..UptoSaid' is the law's where the arguments, and the package variables that the reading takes, are together of bulk at most 1048576: NARROWER than '..Said'. Prove '..Said' where nothing that the law and all that it calls make is longer than what came in: it says more and counts as full. Else prove '..UptoSaid'. A law counts once. -/
mutual
def uptoBulk {H : Type} : DataW H → Nat
  | .lit (.string bytes) => bytes.length + 1
  | .lit _ => 1
  | .nil => 1
  | .ptr d => uptoBulk d + 1
  | .slice elems spare => uptoBulkAll elems + uptoBulkAll spare + 1
  | .agg parts => uptoBulkAll parts + 1
  | .iface _ d => uptoBulk d + 1
  | .map entries => uptoBulkEntries entries + 1
  | .held _ => 1
def uptoBulkAll {H : Type} : List (DataW H) → Nat
  | [] => 0
  | d :: r => uptoBulk d + uptoBulkAll r
def uptoBulkEntries {H : Type} : List (Lit × DataW H) → Nat
  | [] => 0
  | x :: r => uptoBulkEntry x + uptoBulkEntries r
def uptoBulkEntry {H : Type} : Lit × DataW H → Nat
  | (.string bytes, d) => bytes.length + uptoBulk d + 1
  | (_, d) => uptoBulk d + 1
 end
def uptoSmall : (H : Type) → List (DataW H) → Bool := fun _ ds => decide (uptoBulkAll ds ≤ 1048576)
def OpenSpec.upto (s : _root_.Go.ChangeSpec) : _root_.Go.OpenSpec := { _root_.Go.OpenSpec.ofChange s with cond := some uptoSmall }

/-- 'terracelaw13.SimnetFates', WHERE WHAT IT READS IS OF BULK AT MOST 1048576: true; the input reads as it did. -/
def simnetFatesUptoRow : OpenClaim := { program := "ytlodiibmofeikaa", sum := "18077711bd17ea18394b940cba61be0a252a0299a753496baa6cf3d36d97ae9b", func := "terrace/terracelaw13.SimnetFates", spec := "simnetFates", inPlace := ["slices.overlaps[terrace/pipe.message]"], unfollowed := true, recurses := true, apart := false, narrowed := true }
def SimnetFatesUptoSaid : Prop := simnetFatesUptoRow.holds Try.pinned (OpenSpec.upto simnetFatesSpec)

/-- 'terracelaw13.SimnetNew', WHERE WHAT IT READS IS OF BULK AT MOST 1048576: true; the input reads as it did. -/
def simnetNewUptoRow : OpenClaim := { program := "ytlodiibmofeikaa", sum := "18077711bd17ea18394b940cba61be0a252a0299a753496baa6cf3d36d97ae9b", func := "terrace/terracelaw13.SimnetNew", spec := "simnetNew", inPlace := ["slices.overlaps[terrace/pipe.message]"], unfollowed := true, recurses := true, apart := false, narrowed := true }
def SimnetNewUptoSaid : Prop := simnetNewUptoRow.holds Try.pinned (OpenSpec.upto simnetNewSpec)

/-- 'terracelaw13.SimnetPlays', WHERE WHAT IT READS IS OF BULK AT MOST 1048576: true; the input reads as it did. -/
def simnetPlaysUptoRow : OpenClaim := { program := "ytlodiibmofeikaa", sum := "18077711bd17ea18394b940cba61be0a252a0299a753496baa6cf3d36d97ae9b", func := "terrace/terracelaw13.SimnetPlays", spec := "simnetPlays", inPlace := ["slices.overlaps[terrace/pipe.message]"], unfollowed := true, recurses := true, apart := false, narrowed := true }
def SimnetPlaysUptoSaid : Prop := simnetPlaysUptoRow.holds Try.pinned (OpenSpec.upto simnetPlaysSpec)

/-- 'terracelaw13.SimnetCopies', WHERE WHAT IT READS IS OF BULK AT MOST 1048576: true; the input reads as it did. -/
def simnetCopiesUptoRow : OpenClaim := { program := "ytlodiibmofeikaa", sum := "18077711bd17ea18394b940cba61be0a252a0299a753496baa6cf3d36d97ae9b", func := "terrace/terracelaw13.SimnetCopies", spec := "simnetCopies", inPlace := ["slices.overlaps[terrace/pipe.message]"], unfollowed := true, recurses := true, apart := false, narrowed := true }
def SimnetCopiesUptoSaid : Prop := simnetCopiesUptoRow.holds Try.pinned (OpenSpec.upto simnetCopiesSpec)

end Rows
end Go.Proofs.Ytlodiibmofeikaa
