/-
  No cell of these rows narrows 'for every input' (looked for: loops, veiled, ifaces, maps, wideKeys, modest, calm, conditions, laid).
  DERIVED. THE GIVEN ROWS OF THIS SEAT. 5 by the template 'for every input the law returns true; each argument reads behind the call as it read before'; 0 by the template 'total and deterministic' (their statements: YtmiholjmagobhaaTotals.lean).
  GIVEN WITH THE SEED: the statements are not yours to turn. If you find one false, say at which input.
  Laid BY PROGRAM, IN A SANDBOX (cutbox-rows.mjs): the forced cells as the released guide's own fill.sh prints them over the translation eaca0e37aa01a5ae… (all of the seat's roots in one cut). By AI agents, Wed Nov 11 2026. No macro, syntax, notation, axiom, sorry.
-/
import Derived.Test.YtmiholjmagobhaaChecked
import GoSem.Claim
import GoSem.ClaimJoined
import GoSem.ClaimMapViews
import Derived.JoinedTies
import Derived.KernelRfl
namespace Go.Proofs.Ytmiholjmagobhaa
/- THE CELL 'sum', in the pinned program and in every row, IS THE sha256 OF THE DUMP (.gsa) THAT YtmiholjmagobhaaProg.lean LOADS. Nothing in Lean hashes anything: it is a label: what it is worth is what the hold of that sum in a sandbox is worth. -/
noncomputable def Try.pinned : Pinned := { name := "ytmiholjmagobhaa", sum := "eaca0e37aa01a5ae2ffa3e91c3c80b5453c9283d4e6dc77eefa03e09a404e620", checked := Try.checked }
namespace Rows
def none {H : Type} : Left H := { results := [], args := [] }

/-- 'terracelaw23.MarksFails': WHATEVER THE INPUT: true; the input reads as it did. -/
def marksFailsSpec : ChangeSpec := { name := "marksFails", fn := fun _ => fun
  | [d1, d2, d3] => { results := [.lit (.bool true)], args := [d1, d2, d3] }
  | _ => none }
def marksFailsRow : OpenClaim := { program := "ytmiholjmagobhaa", sum := "eaca0e37aa01a5ae2ffa3e91c3c80b5453c9283d4e6dc77eefa03e09a404e620", func := "terrace/terracelaw23.MarksFails", spec := "marksFails", apart := false }
def MarksFailsSaid : Prop := marksFailsRow.holds Try.pinned (OpenSpec.ofChange marksFailsSpec)

/-- ITS FALSE NEIGHBOUR: 'it returns false'. Refute it at one input. -/
def marksFailsWrong : ChangeSpec := { name := "marksFails", fn := fun _ => fun
  | [d1, d2, d3] => { results := [.lit (.bool false)], args := [d1, d2, d3] }
  | _ => none }
def MarksFailsWrongFalsely : Prop := marksFailsRow.holds Try.pinned (OpenSpec.ofChange marksFailsWrong)

/-- 'terracelaw23.MarksDue': WHATEVER THE INPUT: true; the input reads as it did. -/
def marksDueSpec : ChangeSpec := { name := "marksDue", fn := fun _ => fun
  | [d1, d2, d3] => { results := [.lit (.bool true)], args := [d1, d2, d3] }
  | _ => none }
def marksDueRow : OpenClaim := { program := "ytmiholjmagobhaa", sum := "eaca0e37aa01a5ae2ffa3e91c3c80b5453c9283d4e6dc77eefa03e09a404e620", func := "terrace/terracelaw23.MarksDue", spec := "marksDue", apart := false }
def MarksDueSaid : Prop := marksDueRow.holds Try.pinned (OpenSpec.ofChange marksDueSpec)

/-- ITS FALSE NEIGHBOUR: 'it returns false'. Refute it at one input. -/
def marksDueWrong : ChangeSpec := { name := "marksDue", fn := fun _ => fun
  | [d1, d2, d3] => { results := [.lit (.bool false)], args := [d1, d2, d3] }
  | _ => none }
def MarksDueWrongFalsely : Prop := marksDueRow.holds Try.pinned (OpenSpec.ofChange marksDueWrong)

/-- 'terracelaw23.MarksPlays': WHATEVER THE INPUT: true; the input reads as it did. -/
def marksPlaysSpec : ChangeSpec := { name := "marksPlays", fn := fun _ => fun
  | [d] => { results := [.lit (.bool true)], args := [d] }
  | _ => none }
def marksPlaysRow : OpenClaim := { program := "ytmiholjmagobhaa", sum := "eaca0e37aa01a5ae2ffa3e91c3c80b5453c9283d4e6dc77eefa03e09a404e620", func := "terrace/terracelaw23.MarksPlays", spec := "marksPlays", apart := false }
def MarksPlaysSaid : Prop := marksPlaysRow.holds Try.pinned (OpenSpec.ofChange marksPlaysSpec)

/-- ITS FALSE NEIGHBOUR: 'it returns false'. Refute it at one input. -/
def marksPlaysWrong : ChangeSpec := { name := "marksPlays", fn := fun _ => fun
  | [d] => { results := [.lit (.bool false)], args := [d] }
  | _ => none }
def MarksPlaysWrongFalsely : Prop := marksPlaysRow.holds Try.pinned (OpenSpec.ofChange marksPlaysWrong)

/-- 'terracelaw23.MarksSteps': WHATEVER THE INPUT: true; the input reads as it did. -/
def marksStepsSpec : ChangeSpec := { name := "marksSteps", fn := fun _ => fun
  | [d] => { results := [.lit (.bool true)], args := [d] }
  | _ => none }
def marksStepsRow : OpenClaim := { program := "ytmiholjmagobhaa", sum := "eaca0e37aa01a5ae2ffa3e91c3c80b5453c9283d4e6dc77eefa03e09a404e620", func := "terrace/terracelaw23.MarksSteps", spec := "marksSteps", apart := false }
def MarksStepsSaid : Prop := marksStepsRow.holds Try.pinned (OpenSpec.ofChange marksStepsSpec)

/-- ITS FALSE NEIGHBOUR: 'it returns false'. Refute it at one input. -/
def marksStepsWrong : ChangeSpec := { name := "marksSteps", fn := fun _ => fun
  | [d] => { results := [.lit (.bool false)], args := [d] }
  | _ => none }
def MarksStepsWrongFalsely : Prop := marksStepsRow.holds Try.pinned (OpenSpec.ofChange marksStepsWrong)

/-- 'terracelaw23.MarksNew': WHATEVER THE INPUT: true; the input reads as it did. -/
def marksNewSpec : ChangeSpec := { name := "marksNew", fn := fun _ => fun
  | [d1, d2, d3] => { results := [.lit (.bool true)], args := [d1, d2, d3] }
  | _ => none }
def marksNewRow : OpenClaim := { program := "ytmiholjmagobhaa", sum := "eaca0e37aa01a5ae2ffa3e91c3c80b5453c9283d4e6dc77eefa03e09a404e620", func := "terrace/terracelaw23.MarksNew", spec := "marksNew", apart := false }
def MarksNewSaid : Prop := marksNewRow.holds Try.pinned (OpenSpec.ofChange marksNewSpec)

/-- ITS FALSE NEIGHBOUR: 'it returns false'. Refute it at one input. -/
def marksNewWrong : ChangeSpec := { name := "marksNew", fn := fun _ => fun
  | [d1, d2, d3] => { results := [.lit (.bool false)], args := [d1, d2, d3] }
  | _ => none }
def MarksNewWrongFalsely : Prop := marksNewRow.holds Try.pinned (OpenSpec.ofChange marksNewWrong)

/- THE SECOND FORM. 'bulk': how many values and letters a reading holds, each counted each time it is reached (what is shared counts as often as it is met; a slice's spare places count too). A statement '..UptoSaid' is the law's where the arguments, and the package variables that the reading takes, are together of bulk at most 1048576: NARROWER than '..Said'. Prove '..Said' where nothing that the law and all that it calls make is longer than what came in: it says more and counts as full. Else prove '..UptoSaid'. A law counts once. -/
mutual
def uptoBulk {H : Type} : DataW H → Nat
  | .lit (.string bytes) => bytes.length + 1
  | .lit _ => 1
  | .nil => 1
  | .ptr d => uptoBulk d + 1
  | .slice elems spare => uptoBulkAll elems + uptoBulkAll spare + 1
  | .agg parts => uptoBulkAll parts + 1
  | .iface _ d => uptoBulk d + 1
  | .map entries => uptoBulkEntries entries + 1
  | .held _ => 1
def uptoBulkAll {H : Type} : List (DataW H) → Nat
  | [] => 0
  | d :: r => uptoBulk d + uptoBulkAll r
def uptoBulkEntries {H : Type} : List (Lit × DataW H) → Nat
  | [] => 0
  | x :: r => uptoBulkEntry x + uptoBulkEntries r
def uptoBulkEntry {H : Type} : Lit × DataW H → Nat
  | (.string bytes, d) => bytes.length + uptoBulk d + 1
  | (_, d) => uptoBulk d + 1
 end
def uptoSmall : (H : Type) → List (DataW H) → Bool := fun _ ds => decide (uptoBulkAll ds ≤ 1048576)
def OpenSpec.upto (s : _root_.Go.ChangeSpec) : _root_.Go.OpenSpec := { _root_.Go.OpenSpec.ofChange s with cond := some uptoSmall }

/-- 'terracelaw23.MarksFails', WHERE WHAT IT READS IS OF BULK AT MOST 1048576: true; the input reads as it did. -/
def marksFailsUptoRow : OpenClaim := { program := "ytmiholjmagobhaa", sum := "eaca0e37aa01a5ae2ffa3e91c3c80b5453c9283d4e6dc77eefa03e09a404e620", func := "terrace/terracelaw23.MarksFails", spec := "marksFails", apart := false, narrowed := true }
def MarksFailsUptoSaid : Prop := marksFailsUptoRow.holds Try.pinned (OpenSpec.upto marksFailsSpec)

/-- 'terracelaw23.MarksDue', WHERE WHAT IT READS IS OF BULK AT MOST 1048576: true; the input reads as it did. -/
def marksDueUptoRow : OpenClaim := { program := "ytmiholjmagobhaa", sum := "eaca0e37aa01a5ae2ffa3e91c3c80b5453c9283d4e6dc77eefa03e09a404e620", func := "terrace/terracelaw23.MarksDue", spec := "marksDue", apart := false, narrowed := true }
def MarksDueUptoSaid : Prop := marksDueUptoRow.holds Try.pinned (OpenSpec.upto marksDueSpec)

/-- 'terracelaw23.MarksPlays', WHERE WHAT IT READS IS OF BULK AT MOST 1048576: true; the input reads as it did. -/
def marksPlaysUptoRow : OpenClaim := { program := "ytmiholjmagobhaa", sum := "eaca0e37aa01a5ae2ffa3e91c3c80b5453c9283d4e6dc77eefa03e09a404e620", func := "terrace/terracelaw23.MarksPlays", spec := "marksPlays", apart := false, narrowed := true }
def MarksPlaysUptoSaid : Prop := marksPlaysUptoRow.holds Try.pinned (OpenSpec.upto marksPlaysSpec)

/-- 'terracelaw23.MarksSteps', WHERE WHAT IT READS IS OF BULK AT MOST 1048576: true; the input reads as it did. -/
def marksStepsUptoRow : OpenClaim := { program := "ytmiholjmagobhaa", sum := "eaca0e37aa01a5ae2ffa3e91c3c80b5453c9283d4e6dc77eefa03e09a404e620", func := "terrace/terracelaw23.MarksSteps", spec := "marksSteps", apart := false, narrowed := true }
def MarksStepsUptoSaid : Prop := marksStepsUptoRow.holds Try.pinned (OpenSpec.upto marksStepsSpec)

/-- 'terracelaw23.MarksNew', WHERE WHAT IT READS IS OF BULK AT MOST 1048576: true; the input reads as it did. -/
def marksNewUptoRow : OpenClaim := { program := "ytmiholjmagobhaa", sum := "eaca0e37aa01a5ae2ffa3e91c3c80b5453c9283d4e6dc77eefa03e09a404e620", func := "terrace/terracelaw23.MarksNew", spec := "marksNew", apart := false, narrowed := true }
def MarksNewUptoSaid : Prop := marksNewUptoRow.holds Try.pinned (OpenSpec.upto marksNewSpec)

end Rows
end Go.Proofs.Ytmiholjmagobhaa
