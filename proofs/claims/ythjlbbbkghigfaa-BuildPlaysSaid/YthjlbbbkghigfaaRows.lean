/-
  No cell of these rows narrows 'for every input' (looked for: loops, veiled, ifaces, maps, wideKeys, modest, calm, conditions, laid).
  DERIVED. THE GIVEN ROWS OF THIS SEAT. 4 by the template 'for every input the law returns true; each argument reads behind the call as it read before'; 0 by the template 'total and deterministic' (their statements: YthjlbbbkghigfaaTotals.lean).
  GIVEN WITH THE SEED: the statements are not yours to turn. If you find one false, say at which input.
  Laid BY PROGRAM, IN A SANDBOX (cutbox-rows.mjs): the forced cells as the released guide's own fill.sh prints them over the translation 7a3b6c825cea12c4… (all of the seat's roots in one cut). By AI agents, Wed Nov 11 2026. No macro, syntax, notation, axiom, sorry.
-/
import Derived.Test.YthjlbbbkghigfaaChecked
import GoSem.Claim
import GoSem.ClaimJoined
import GoSem.ClaimMapViews
import Derived.JoinedTies
import Derived.KernelRfl
namespace Go.Proofs.Ythjlbbbkghigfaa
/- THE CELL 'sum', in the pinned program and in every row, IS THE sha256 OF THE DUMP (.gsa) THAT YthjlbbbkghigfaaProg.lean LOADS. Nothing in Lean hashes anything: it is a label: what it is worth is what the hold of that sum in a sandbox is worth. -/
noncomputable def Try.pinned : Pinned := { name := "ythjlbbbkghigfaa", sum := "7a3b6c825cea12c41859600090d2804b14a9b1b2aaf73e441f0719c4feb82e2f", checked := Try.checked }
namespace Rows
def none {H : Type} : Left H := { results := [], args := [] }

/-- 'terracelaw26.BuildLog': WHATEVER THE INPUT: true; the input reads as it did. -/
def buildLogSpec : ChangeSpec := { name := "buildLog", fn := fun _ => fun
  | [d] => { results := [.lit (.bool true)], args := [d] }
  | _ => none }
def buildLogRow : OpenClaim := { program := "ythjlbbbkghigfaa", sum := "7a3b6c825cea12c41859600090d2804b14a9b1b2aaf73e441f0719c4feb82e2f", func := "terrace/terracelaw26.BuildLog", spec := "buildLog", inPlace := ["slices.overlaps[[2]int]"], unfollowed := true, recurses := true, apart := false }
def BuildLogSaid : Prop := buildLogRow.holds Try.pinned (OpenSpec.ofChange buildLogSpec)

/-- ITS FALSE NEIGHBOUR: 'it returns false'. Refute it at one input. -/
def buildLogWrong : ChangeSpec := { name := "buildLog", fn := fun _ => fun
  | [d] => { results := [.lit (.bool false)], args := [d] }
  | _ => none }
def BuildLogWrongFalsely : Prop := buildLogRow.holds Try.pinned (OpenSpec.ofChange buildLogWrong)

/-- 'terracelaw26.BuildMissing': WHATEVER THE INPUT: true; the input reads as it did. -/
def buildMissingSpec : ChangeSpec := { name := "buildMissing", fn := fun _ => fun
  | [d1, d2] => { results := [.lit (.bool true)], args := [d1, d2] }
  | _ => none }
def buildMissingRow : OpenClaim := { program := "ythjlbbbkghigfaa", sum := "7a3b6c825cea12c41859600090d2804b14a9b1b2aaf73e441f0719c4feb82e2f", func := "terrace/terracelaw26.BuildMissing", spec := "buildMissing", inPlace := ["slices.overlaps[[2]int]"], unfollowed := true, recurses := true, apart := false }
def BuildMissingSaid : Prop := buildMissingRow.holds Try.pinned (OpenSpec.ofChange buildMissingSpec)

/-- ITS FALSE NEIGHBOUR: 'it returns false'. Refute it at one input. -/
def buildMissingWrong : ChangeSpec := { name := "buildMissing", fn := fun _ => fun
  | [d1, d2] => { results := [.lit (.bool false)], args := [d1, d2] }
  | _ => none }
def BuildMissingWrongFalsely : Prop := buildMissingRow.holds Try.pinned (OpenSpec.ofChange buildMissingWrong)

/-- 'terracelaw26.BuildNew': WHATEVER THE INPUT: true; the input reads as it did. -/
def buildNewSpec : ChangeSpec := { name := "buildNew", fn := fun _ => fun
  | [d1, d2, d3] => { results := [.lit (.bool true)], args := [d1, d2, d3] }
  | _ => none }
def buildNewRow : OpenClaim := { program := "ythjlbbbkghigfaa", sum := "7a3b6c825cea12c41859600090d2804b14a9b1b2aaf73e441f0719c4feb82e2f", func := "terrace/terracelaw26.BuildNew", spec := "buildNew", inPlace := ["slices.overlaps[[2]int]"], unfollowed := true, recurses := true, apart := false }
def BuildNewSaid : Prop := buildNewRow.holds Try.pinned (OpenSpec.ofChange buildNewSpec)

/-- ITS FALSE NEIGHBOUR: 'it returns false'. Refute it at one input. -/
def buildNewWrong : ChangeSpec := { name := "buildNew", fn := fun _ => fun
  | [d1, d2, d3] => { results := [.lit (.bool false)], args := [d1, d2, d3] }
  | _ => none }
def BuildNewWrongFalsely : Prop := buildNewRow.holds Try.pinned (OpenSpec.ofChange buildNewWrong)

/-- 'terracelaw26.BuildPlays': WHATEVER THE INPUT: true; the input reads as it did. -/
def buildPlaysSpec : ChangeSpec := { name := "buildPlays", fn := fun _ => fun
  | [d1, d2] => { results := [.lit (.bool true)], args := [d1, d2] }
  | _ => none }
def buildPlaysRow : OpenClaim := { program := "ythjlbbbkghigfaa", sum := "7a3b6c825cea12c41859600090d2804b14a9b1b2aaf73e441f0719c4feb82e2f", func := "terrace/terracelaw26.BuildPlays", spec := "buildPlays", inPlace := ["slices.overlaps[[2]int]"], unfollowed := true, recurses := true, apart := false }
def BuildPlaysSaid : Prop := buildPlaysRow.holds Try.pinned (OpenSpec.ofChange buildPlaysSpec)

/-- ITS FALSE NEIGHBOUR: 'it returns false'. Refute it at one input. -/
def buildPlaysWrong : ChangeSpec := { name := "buildPlays", fn := fun _ => fun
  | [d1, d2] => { results := [.lit (.bool false)], args := [d1, d2] }
  | _ => none }
def BuildPlaysWrongFalsely : Prop := buildPlaysRow.holds Try.pinned (OpenSpec.ofChange buildPlaysWrong)

/- THE SECOND FORM. 'bulk': how many values and letters a reading holds, each counted each time it is reached (what is shared counts as often as it is met; a slice's spare places count too). A statement '..UptoSaid' is the law's where the arguments, and the package variables that the reading takes, are together of bulk at most 1048576: NARROWER than '..Said'. Prove '..Said' where nothing that the law and all that it calls make is longer than what came in: it says more and counts as full. Else prove '..UptoSaid'. A law counts once. -/
mutual
def uptoBulk {H : Type} : DataW H → Nat
  | .lit (.string bytes) => bytes.length + 1
  | .lit _ => 1
  | .nil => 1
  | .ptr d => uptoBulk d + 1
  | .slice elems spare => uptoBulkAll elems + uptoBulkAll spare + 1
  | .agg parts => uptoBulkAll parts + 1
  | .iface _ d => uptoBulk d + 1
  | .map entries => uptoBulkEntries entries + 1
  | .held _ => 1
def uptoBulkAll {H : Type} : List (DataW H) → Nat
  | [] => 0
  | d :: r => uptoBulk d + uptoBulkAll r
def uptoBulkEntries {H : Type} : List (Lit × DataW H) → Nat
  | [] => 0
  | x :: r => uptoBulkEntry x + uptoBulkEntries r
def uptoBulkEntry {H : Type} : Lit × DataW H → Nat
  | (.string bytes, d) => bytes.length + uptoBulk d + 1
  | (_, d) => uptoBulk d + 1
 end
def uptoSmall : (H : Type) → List (DataW H) → Bool := fun _ ds => decide (uptoBulkAll ds ≤ 1048576)
def OpenSpec.upto (s : _root_.Go.ChangeSpec) : _root_.Go.OpenSpec := { _root_.Go.OpenSpec.ofChange s with cond := some uptoSmall }

/-- 'terracelaw26.BuildLog', WHERE WHAT IT READS IS OF BULK AT MOST 1048576: true; the input reads as it did. -/
def buildLogUptoRow : OpenClaim := { program := "ythjlbbbkghigfaa", sum := "7a3b6c825cea12c41859600090d2804b14a9b1b2aaf73e441f0719c4feb82e2f", func := "terrace/terracelaw26.BuildLog", spec := "buildLog", inPlace := ["slices.overlaps[[2]int]"], unfollowed := true, recurses := true, apart := false, narrowed := true }
def BuildLogUptoSaid : Prop := buildLogUptoRow.holds Try.pinned (OpenSpec.upto buildLogSpec)

/-- 'terracelaw26.BuildMissing', WHERE WHAT IT READS IS OF BULK AT MOST 1048576: true; the input reads as it did. -/
def buildMissingUptoRow : OpenClaim := { program := "ythjlbbbkghigfaa", sum := "7a3b6c825cea12c41859600090d2804b14a9b1b2aaf73e441f0719c4feb82e2f", func := "terrace/terracelaw26.BuildMissing", spec := "buildMissing", inPlace := ["slices.overlaps[[2]int]"], unfollowed := true, recurses := true, apart := false, narrowed := true }
def BuildMissingUptoSaid : Prop := buildMissingUptoRow.holds Try.pinned (OpenSpec.upto buildMissingSpec)

/-- 'terracelaw26.BuildNew', WHERE WHAT IT READS IS OF BULK AT MOST 1048576: true; the input reads as it did. -/
def buildNewUptoRow : OpenClaim := { program := "ythjlbbbkghigfaa", sum := "7a3b6c825cea12c41859600090d2804b14a9b1b2aaf73e441f0719c4feb82e2f", func := "terrace/terracelaw26.BuildNew", spec := "buildNew", inPlace := ["slices.overlaps[[2]int]"], unfollowed := true, recurses := true, apart := false, narrowed := true }
def BuildNewUptoSaid : Prop := buildNewUptoRow.holds Try.pinned (OpenSpec.upto buildNewSpec)

/-- 'terracelaw26.BuildPlays', WHERE WHAT IT READS IS OF BULK AT MOST 1048576: true; the input reads as it did. -/
def buildPlaysUptoRow : OpenClaim := { program := "ythjlbbbkghigfaa", sum := "7a3b6c825cea12c41859600090d2804b14a9b1b2aaf73e441f0719c4feb82e2f", func := "terrace/terracelaw26.BuildPlays", spec := "buildPlays", inPlace := ["slices.overlaps[[2]int]"], unfollowed := true, recurses := true, apart := false, narrowed := true }
def BuildPlaysUptoSaid : Prop := buildPlaysUptoRow.holds Try.pinned (OpenSpec.upto buildPlaysSpec)

end Rows
end Go.Proofs.Ythjlbbbkghigfaa
