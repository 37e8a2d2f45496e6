/-
  No cell of these rows narrows 'for every input' (looked for: loops, veiled, ifaces, maps, wideKeys, modest, calm, conditions, laid).
  DERIVED. THE GIVEN ROWS OF THIS SEAT. 4 by the template 'for every input the law returns true; each argument reads behind the call as it read before'; 0 by the template 'total and deterministic' (their statements: YtbdnopimaofabaaTotals.lean).
  GIVEN WITH THE SEED: the statements are not yours to turn. If you find one false, say at which input.
  Laid BY PROGRAM, IN A SANDBOX (cutbox-rows.mjs): the forced cells as the released guide's own fill.sh prints them over the translation c05b36f32ad84929… (all of the seat's roots in one cut). By AI agents, Wed Nov 11 2026. No macro, syntax, notation, axiom, sorry.
-/
import Derived.Test.YtbdnopimaofabaaChecked
import GoSem.Claim
import GoSem.ClaimJoined
import GoSem.ClaimMapViews
import Derived.JoinedTies
import Derived.KernelRfl
namespace Go.Proofs.Ytbdnopimaofabaa
/- THE CELL 'sum', in the pinned program and in every row, IS THE sha256 OF THE DUMP (.gsa) THAT YtbdnopimaofabaaProg.lean LOADS. Nothing in Lean hashes anything: it is a label: what it is worth is what the hold of that sum in a sandbox is worth. -/
noncomputable def Try.pinned : Pinned := { name := "ytbdnopimaofabaa", sum := "c05b36f32ad84929a0788915ae9a11250a709a2ede56a6f2705e8da2392bc786", checked := Try.checked }
namespace Rows
def none {H : Type} : Left H := { results := [], args := [] }

/-- 'terracelaw12.GroupLevels': WHATEVER THE INPUT: true; the input reads as it did. -/
def groupLevelsSpec : ChangeSpec := { name := "groupLevels", fn := fun _ => fun
  | [d1, d2] => { results := [.lit (.bool true)], args := [d1, d2] }
  | _ => none }
def groupLevelsRow : OpenClaim := { program := "ytbdnopimaofabaa", sum := "c05b36f32ad84929a0788915ae9a11250a709a2ede56a6f2705e8da2392bc786", func := "terrace/terracelaw12.GroupLevels", spec := "groupLevels", apart := false }
def GroupLevelsSaid : Prop := groupLevelsRow.holds Try.pinned (OpenSpec.ofChange groupLevelsSpec)

/-- ITS FALSE NEIGHBOUR: 'it returns false'. Refute it at one input. -/
def groupLevelsWrong : ChangeSpec := { name := "groupLevels", fn := fun _ => fun
  | [d1, d2] => { results := [.lit (.bool false)], args := [d1, d2] }
  | _ => none }
def GroupLevelsWrongFalsely : Prop := groupLevelsRow.holds Try.pinned (OpenSpec.ofChange groupLevelsWrong)

/-- 'terracelaw12.GroupMembers': WHATEVER THE INPUT: true; the input reads as it did. -/
def groupMembersSpec : ChangeSpec := { name := "groupMembers", fn := fun _ => fun
  | [d1, d2, d3] => { results := [.lit (.bool true)], args := [d1, d2, d3] }
  | _ => none }
def groupMembersRow : OpenClaim := { program := "ytbdnopimaofabaa", sum := "c05b36f32ad84929a0788915ae9a11250a709a2ede56a6f2705e8da2392bc786", func := "terrace/terracelaw12.GroupMembers", spec := "groupMembers", apart := false }
def GroupMembersSaid : Prop := groupMembersRow.holds Try.pinned (OpenSpec.ofChange groupMembersSpec)

/-- ITS FALSE NEIGHBOUR: 'it returns false'. Refute it at one input. -/
def groupMembersWrong : ChangeSpec := { name := "groupMembers", fn := fun _ => fun
  | [d1, d2, d3] => { results := [.lit (.bool false)], args := [d1, d2, d3] }
  | _ => none }
def GroupMembersWrongFalsely : Prop := groupMembersRow.holds Try.pinned (OpenSpec.ofChange groupMembersWrong)

/-- 'terracelaw12.GroupNew': WHATEVER THE INPUT: true; the input reads as it did. -/
def groupNewSpec : ChangeSpec := { name := "groupNew", fn := fun _ => fun
  | [d1, d2, d3] => { results := [.lit (.bool true)], args := [d1, d2, d3] }
  | _ => none }
def groupNewRow : OpenClaim := { program := "ytbdnopimaofabaa", sum := "c05b36f32ad84929a0788915ae9a11250a709a2ede56a6f2705e8da2392bc786", func := "terrace/terracelaw12.GroupNew", spec := "groupNew", apart := false }
def GroupNewSaid : Prop := groupNewRow.holds Try.pinned (OpenSpec.ofChange groupNewSpec)

/-- ITS FALSE NEIGHBOUR: 'it returns false'. Refute it at one input. -/
def groupNewWrong : ChangeSpec := { name := "groupNew", fn := fun _ => fun
  | [d1, d2, d3] => { results := [.lit (.bool false)], args := [d1, d2, d3] }
  | _ => none }
def GroupNewWrongFalsely : Prop := groupNewRow.holds Try.pinned (OpenSpec.ofChange groupNewWrong)

/-- 'terracelaw12.GroupCopies': WHATEVER THE INPUT: true; the input reads as it did. -/
def groupCopiesSpec : ChangeSpec := { name := "groupCopies", fn := fun _ => fun
  | [d1, d2, d3] => { results := [.lit (.bool true)], args := [d1, d2, d3] }
  | _ => none }
def groupCopiesRow : OpenClaim := { program := "ytbdnopimaofabaa", sum := "c05b36f32ad84929a0788915ae9a11250a709a2ede56a6f2705e8da2392bc786", func := "terrace/terracelaw12.GroupCopies", spec := "groupCopies", apart := false }
def GroupCopiesSaid : Prop := groupCopiesRow.holds Try.pinned (OpenSpec.ofChange groupCopiesSpec)

/-- ITS FALSE NEIGHBOUR: 'it returns false'. Refute it at one input. -/
def groupCopiesWrong : ChangeSpec := { name := "groupCopies", fn := fun _ => fun
  | [d1, d2, d3] => { results := [.lit (.bool false)], args := [d1, d2, d3] }
  | _ => none }
def GroupCopiesWrongFalsely : Prop := groupCopiesRow.holds Try.pinned (OpenSpec.ofChange groupCopiesWrong)

/- THE SECOND FORM. 'bulk': how many values and letters a reading holds, each counted each time it is reached (what is shared counts as often as it is met; a slice's spare places count too). A statement '..UptoSaid' is the law's where the arguments, and the package variables that the reading takes, are together of bulk at most 1048576: NARROWER than '..Said'. Prove '..Said' where nothing that the law and all that it calls make is longer than what came in: it says more and counts as full. Else prove '..UptoSaid'. A law counts once. -/
mutual
def uptoBulk {H : Type} : DataW H → Nat
  | .lit (.string bytes) => bytes.length + 1
  | .lit _ => 1
  | .nil => 1
  | .ptr d => uptoBulk d + 1
  | .slice elems spare => uptoBulkAll elems + uptoBulkAll spare + 1
  | .agg parts => uptoBulkAll parts + 1
  | .iface _ d => uptoBulk d + 1
  | .map entries => uptoBulkEntries entries + 1
  | .held _ => 1
def uptoBulkAll {H : Type} : List (DataW H) → Nat
  | [] => 0
  | d :: r => uptoBulk d + uptoBulkAll r
def uptoBulkEntries {H : Type} : List (Lit × DataW H) → Nat
  | [] => 0
  | x :: r => uptoBulkEntry x + uptoBulkEntries r
def uptoBulkEntry {H : Type} : Lit × DataW H → Nat
  | (.string bytes, d) => bytes.length + uptoBulk d + 1
  | (_, d) => uptoBulk d + 1
 end
def uptoSmall : (H : Type) → List (DataW H) → Bool := fun _ ds => decide (uptoBulkAll ds ≤ 1048576)
def OpenSpec.upto (s : _root_.Go.ChangeSpec) : _root_.Go.OpenSpec := { _root_.Go.OpenSpec.ofChange s with cond := some uptoSmall }

/-- 'terracelaw12.GroupLevels', WHERE WHAT IT READS IS OF BULK AT MOST 1048576: true; the input reads as it did. -/
def groupLevelsUptoRow : OpenClaim := { program := "ytbdnopimaofabaa", sum := "c05b36f32ad84929a0788915ae9a11250a709a2ede56a6f2705e8da2392bc786", func := "terrace/terracelaw12.GroupLevels", spec := "groupLevels", apart := false, narrowed := true }
def GroupLevelsUptoSaid : Prop := groupLevelsUptoRow.holds Try.pinned (OpenSpec.upto groupLevelsSpec)

/-- 'terracelaw12.GroupMembers', WHERE WHAT IT READS IS OF BULK AT MOST 1048576: true; the input reads as it did. -/
def groupMembersUptoRow : OpenClaim := { program := "ytbdnopimaofabaa", sum := "c05b36f32ad84929a0788915ae9a11250a709a2ede56a6f2705e8da2392bc786", func := "terrace/terracelaw12.GroupMembers", spec := "groupMembers", apart := false, narrowed := true }
def GroupMembersUptoSaid : Prop := groupMembersUptoRow.holds Try.pinned (OpenSpec.upto groupMembersSpec)

/-- 'terracelaw12.GroupNew', WHERE WHAT IT READS IS OF BULK AT MOST 1048576: true; the input reads as it did. -/
def groupNewUptoRow : OpenClaim := { program := "ytbdnopimaofabaa", sum := "c05b36f32ad84929a0788915ae9a11250a709a2ede56a6f2705e8da2392bc786", func := "terrace/terracelaw12.GroupNew", spec := "groupNew", apart := false, narrowed := true }
def GroupNewUptoSaid : Prop := groupNewUptoRow.holds Try.pinned (OpenSpec.upto groupNewSpec)

/-- 'terracelaw12.GroupCopies', WHERE WHAT IT READS IS OF BULK AT MOST 1048576: true; the input reads as it did. -/
def groupCopiesUptoRow : OpenClaim := { program := "ytbdnopimaofabaa", sum := "c05b36f32ad84929a0788915ae9a11250a709a2ede56a6f2705e8da2392bc786", func := "terrace/terracelaw12.GroupCopies", spec := "groupCopies", apart := false, narrowed := true }
def GroupCopiesUptoSaid : Prop := groupCopiesUptoRow.holds Try.pinned (OpenSpec.upto groupCopiesSpec)

end Rows
end Go.Proofs.Ytbdnopimaofabaa
