/-
  No cell of these rows narrows 'for every input' (looked for: loops, veiled, ifaces, maps, wideKeys, modest, calm, conditions, laid).
  DERIVED. THE GIVEN ROWS OF THIS SEAT. 4 by the template 'for every input the law returns true; each argument reads behind the call as it read before'; 0 by the template 'total and deterministic' (their statements: YtijmmmgmpfhgoaaTotals.lean).
  GIVEN WITH THE SEED: the statements are not yours to turn. If you find one false, say at which input.
  Laid BY PROGRAM, IN A SANDBOX (cutbox-rows.mjs): the forced cells as the released guide's own fill.sh prints them over the translation 3ff9616e9dedfdb7… (all of the seat's roots in one cut). By AI agents, Wed Nov 11 2026. No macro, syntax, notation, axiom, sorry.
-/
import Derived.Test.YtijmmmgmpfhgoaaChecked
import GoSem.Claim
import GoSem.ClaimJoined
import GoSem.ClaimMapViews
import Derived.JoinedTies
import Derived.KernelRfl
namespace Go.Proofs.Ytijmmmgmpfhgoaa
/- THE CELL 'sum', in the pinned program and in every row, IS THE sha256 OF THE DUMP (.gsa) THAT YtijmmmgmpfhgoaaProg.lean LOADS. Nothing in Lean hashes anything: it is a label: what it is worth is what the hold of that sum in a sandbox is worth. -/
noncomputable def Try.pinned : Pinned := { name := "ytijmmmgmpfhgoaa", sum := "3ff9616e9dedfdb7841b91a0e3849e8990fad65e16993f61398efc03a7afb0f9", checked := Try.checked }
namespace Rows
def none {H : Type} : Left H := { results := [], args := [] }

/-- 'terracelaw11.PipeNew': WHATEVER THE INPUT: true; the input reads as it did. -/
def pipeNewSpec : ChangeSpec := { name := "pipeNew", fn := fun _ => fun
  | [d] => { results := [.lit (.bool true)], args := [d] }
  | _ => none }
def pipeNewRow : OpenClaim := { program := "ytijmmmgmpfhgoaa", sum := "3ff9616e9dedfdb7841b91a0e3849e8990fad65e16993f61398efc03a7afb0f9", func := "terrace/terracelaw11.PipeNew", spec := "pipeNew", inPlace := ["slices.overlaps[terrace/pipe.message]"], unfollowed := true, recurses := true, apart := false }
def PipeNewSaid : Prop := pipeNewRow.holds Try.pinned (OpenSpec.ofChange pipeNewSpec)

/-- ITS FALSE NEIGHBOUR: 'it returns false'. Refute it at one input. -/
def pipeNewWrong : ChangeSpec := { name := "pipeNew", fn := fun _ => fun
  | [d] => { results := [.lit (.bool false)], args := [d] }
  | _ => none }
def PipeNewWrongFalsely : Prop := pipeNewRow.holds Try.pinned (OpenSpec.ofChange pipeNewWrong)

/-- 'terracelaw11.PipePlays': WHATEVER THE INPUT: true; the input reads as it did. -/
def pipePlaysSpec : ChangeSpec := { name := "pipePlays", fn := fun _ => fun
  | [d1, d2] => { results := [.lit (.bool true)], args := [d1, d2] }
  | _ => none }
def pipePlaysRow : OpenClaim := { program := "ytijmmmgmpfhgoaa", sum := "3ff9616e9dedfdb7841b91a0e3849e8990fad65e16993f61398efc03a7afb0f9", func := "terrace/terracelaw11.PipePlays", spec := "pipePlays", inPlace := ["slices.overlaps[terrace/pipe.message]"], unfollowed := true, recurses := true, apart := false }
def PipePlaysSaid : Prop := pipePlaysRow.holds Try.pinned (OpenSpec.ofChange pipePlaysSpec)

/-- ITS FALSE NEIGHBOUR: 'it returns false'. Refute it at one input. -/
def pipePlaysWrong : ChangeSpec := { name := "pipePlays", fn := fun _ => fun
  | [d1, d2] => { results := [.lit (.bool false)], args := [d1, d2] }
  | _ => none }
def PipePlaysWrongFalsely : Prop := pipePlaysRow.holds Try.pinned (OpenSpec.ofChange pipePlaysWrong)

/-- 'terracelaw11.PipeTakes': WHATEVER THE INPUT: true; the input reads as it did. -/
def pipeTakesSpec : ChangeSpec := { name := "pipeTakes", fn := fun _ => fun
  | [d1, d2] => { results := [.lit (.bool true)], args := [d1, d2] }
  | _ => none }
def pipeTakesRow : OpenClaim := { program := "ytijmmmgmpfhgoaa", sum := "3ff9616e9dedfdb7841b91a0e3849e8990fad65e16993f61398efc03a7afb0f9", func := "terrace/terracelaw11.PipeTakes", spec := "pipeTakes", inPlace := ["slices.overlaps[terrace/pipe.message]"], unfollowed := true, recurses := true, apart := false }
def PipeTakesSaid : Prop := pipeTakesRow.holds Try.pinned (OpenSpec.ofChange pipeTakesSpec)

/-- ITS FALSE NEIGHBOUR: 'it returns false'. Refute it at one input. -/
def pipeTakesWrong : ChangeSpec := { name := "pipeTakes", fn := fun _ => fun
  | [d1, d2] => { results := [.lit (.bool false)], args := [d1, d2] }
  | _ => none }
def PipeTakesWrongFalsely : Prop := pipeTakesRow.holds Try.pinned (OpenSpec.ofChange pipeTakesWrong)

/-- 'terracelaw11.PipeCopies': WHATEVER THE INPUT: true; the input reads as it did. -/
def pipeCopiesSpec : ChangeSpec := { name := "pipeCopies", fn := fun _ => fun
  | [d1, d2] => { results := [.lit (.bool true)], args := [d1, d2] }
  | _ => none }
def pipeCopiesRow : OpenClaim := { program := "ytijmmmgmpfhgoaa", sum := "3ff9616e9dedfdb7841b91a0e3849e8990fad65e16993f61398efc03a7afb0f9", func := "terrace/terracelaw11.PipeCopies", spec := "pipeCopies", inPlace := ["slices.overlaps[terrace/pipe.message]"], unfollowed := true, recurses := true, apart := false }
def PipeCopiesSaid : Prop := pipeCopiesRow.holds Try.pinned (OpenSpec.ofChange pipeCopiesSpec)

/-- ITS FALSE NEIGHBOUR: 'it returns false'. Refute it at one input. -/
def pipeCopiesWrong : ChangeSpec := { name := "pipeCopies", fn := fun _ => fun
  | [d1, d2] => { results := [.lit (.bool false)], args := [d1, d2] }
  | _ => none }
def PipeCopiesWrongFalsely : Prop := pipeCopiesRow.holds Try.pinned (OpenSpec.ofChange pipeCopiesWrong)

/- THE SECOND FORM. 'bulk': how many values and letters a reading holds, each counted each time it is reached (what is shared counts as often as it is met; a slice's spare places count too). A statement '..UptoSaid' is the law's where the arguments, and the package variables that the reading takes, are together of bulk at most 1048576: NARROWER than '..Said'. Prove '..Said' where nothing that the law and all that it calls make is longer than what came in: it says more and counts as full. Else prove '..UptoSaid'. A law counts once. -/
mutual
def uptoBulk {H : Type} : DataW H → Nat
  | .lit (.string bytes) => bytes.length + 1
  | .lit _ => 1
  | .nil => 1
  | .ptr d => uptoBulk d + 1
  | .slice elems spare => uptoBulkAll elems + uptoBulkAll spare + 1
  | .agg parts => uptoBulkAll parts + 1
  | .iface _ d => uptoBulk d + 1
  | .map entries => uptoBulkEntries entries + 1
  | .held _ => 1
def uptoBulkAll {H : Type} : List (DataW H) → Nat
  | [] => 0
  | d :: r => uptoBulk d + uptoBulkAll r
def uptoBulkEntries {H : Type} : List (Lit × DataW H) → Nat
  | [] => 0
  | x :: r => uptoBulkEntry x + uptoBulkEntries r
def uptoBulkEntry {H : Type} : Lit × DataW H → Nat
  | (.string bytes, d) => bytes.length + uptoBulk d + 1
  | (_, d) => uptoBulk d + 1
 end
def uptoSmall : (H : Type) → List (DataW H) → Bool := fun _ ds => decide (uptoBulkAll ds ≤ 1048576)
def OpenSpec.upto (s : _root_.Go.ChangeSpec) : _root_.Go.OpenSpec := { _root_.Go.OpenSpec.ofChange s with cond := some uptoSmall }

/-- 'terracelaw11.PipeNew', WHERE WHAT IT READS IS OF BULK AT MOST 1048576: true; the input reads as it did. -/
def pipeNewUptoRow : OpenClaim := { program := "ytijmmmgmpfhgoaa", sum := "3ff9616e9dedfdb7841b91a0e3849e8990fad65e16993f61398efc03a7afb0f9", func := "terrace/terracelaw11.PipeNew", spec := "pipeNew", inPlace := ["slices.overlaps[terrace/pipe.message]"], unfollowed := true, recurses := true, apart := false, narrowed := true }
def PipeNewUptoSaid : Prop := pipeNewUptoRow.holds Try.pinned (OpenSpec.upto pipeNewSpec)

/-- 'terracelaw11.PipePlays', WHERE WHAT IT READS IS OF BULK AT MOST 1048576: true; the input reads as it did. -/
def pipePlaysUptoRow : OpenClaim := { program := "ytijmmmgmpfhgoaa", sum := "3ff9616e9dedfdb7841b91a0e3849e8990fad65e16993f61398efc03a7afb0f9", func := "terrace/terracelaw11.PipePlays", spec := "pipePlays", inPlace := ["slices.overlaps[terrace/pipe.message]"], unfollowed := true, recurses := true, apart := false, narrowed := true }
def PipePlaysUptoSaid : Prop := pipePlaysUptoRow.holds Try.pinned (OpenSpec.upto pipePlaysSpec)

/-- 'terracelaw11.PipeTakes', WHERE WHAT IT READS IS OF BULK AT MOST 1048576: true; the input reads as it did. -/
def pipeTakesUptoRow : OpenClaim := { program := "ytijmmmgmpfhgoaa", sum := "3ff9616e9dedfdb7841b91a0e3849e8990fad65e16993f61398efc03a7afb0f9", func := "terrace/terracelaw11.PipeTakes", spec := "pipeTakes", inPlace := ["slices.overlaps[terrace/pipe.message]"], unfollowed := true, recurses := true, apart := false, narrowed := true }
def PipeTakesUptoSaid : Prop := pipeTakesUptoRow.holds Try.pinned (OpenSpec.upto pipeTakesSpec)

/-- 'terracelaw11.PipeCopies', WHERE WHAT IT READS IS OF BULK AT MOST 1048576: true; the input reads as it did. -/
def pipeCopiesUptoRow : OpenClaim := { program := "ytijmmmgmpfhgoaa", sum := "3ff9616e9dedfdb7841b91a0e3849e8990fad65e16993f61398efc03a7afb0f9", func := "terrace/terracelaw11.PipeCopies", spec := "pipeCopies", inPlace := ["slices.overlaps[terrace/pipe.message]"], unfollowed := true, recurses := true, apart := false, narrowed := true }
def PipeCopiesUptoSaid : Prop := pipeCopiesUptoRow.holds Try.pinned (OpenSpec.upto pipeCopiesSpec)

end Rows
end Go.Proofs.Ytijmmmgmpfhgoaa
