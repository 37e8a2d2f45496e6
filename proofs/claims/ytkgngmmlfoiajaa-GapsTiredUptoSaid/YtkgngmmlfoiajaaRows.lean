/-
  No cell of these rows narrows 'for every input' (looked for: loops, veiled, ifaces, maps, wideKeys, modest, calm, conditions, laid).
  DERIVED. THE GIVEN ROWS OF THIS SEAT. 3 by the template 'for every input the law returns true; each argument reads behind the call as it read before'; 0 by the template 'total and deterministic' (their statements: YtkgngmmlfoiajaaTotals.lean).
  GIVEN WITH THE SEED: the statements are not yours to turn. If you find one false, say at which input.
  Laid BY PROGRAM, IN A SANDBOX (cutbox-rows.mjs): the forced cells as the released guide's own fill.sh prints them over the translation ba9e26d12e803402… (all of the seat's roots in one cut). By AI agents, Wed Nov 11 2026. No macro, syntax, notation, axiom, sorry.
-/
import Derived.Test.YtkgngmmlfoiajaaChecked
import GoSem.Claim
import GoSem.ClaimJoined
import GoSem.ClaimMapViews
import Derived.JoinedTies
import Derived.KernelRfl
namespace Go.Proofs.Ytkgngmmlfoiajaa
/- THE CELL 'sum', in the pinned program and in every row, IS THE sha256 OF THE DUMP (.gsa) THAT YtkgngmmlfoiajaaProg.lean LOADS. Nothing in Lean hashes anything: it is a label: what it is worth is what the hold of that sum in a sandbox is worth. -/
noncomputable def Try.pinned : Pinned := { name := "ytkgngmmlfoiajaa", sum := "ba9e26d12e8034026f245d1073d7dfa1291538cc2fb4c9df5a1d15d207150c68", checked := Try.checked }
namespace Rows
def none {H : Type} : Left H := { results := [], args := [] }

/-- 'terracelaw24.GapsWaits': WHATEVER THE INPUT: true; the input reads as it did. -/
def gapsWaitsSpec : ChangeSpec := { name := "gapsWaits", fn := fun _ => fun
  | [d] => { results := [.lit (.bool true)], args := [d] }
  | _ => none }
def gapsWaitsRow : OpenClaim := { program := "ytkgngmmlfoiajaa", sum := "ba9e26d12e8034026f245d1073d7dfa1291538cc2fb4c9df5a1d15d207150c68", func := "terrace/terracelaw24.GapsWaits", spec := "gapsWaits", inPlace := ["slices.overlaps[terrace/gaps.Hole]"], unfollowed := true, recurses := true, apart := false }
def GapsWaitsSaid : Prop := gapsWaitsRow.holds Try.pinned (OpenSpec.ofChange gapsWaitsSpec)

/-- ITS FALSE NEIGHBOUR: 'it returns false'. Refute it at one input. -/
def gapsWaitsWrong : ChangeSpec := { name := "gapsWaits", fn := fun _ => fun
  | [d] => { results := [.lit (.bool false)], args := [d] }
  | _ => none }
def GapsWaitsWrongFalsely : Prop := gapsWaitsRow.holds Try.pinned (OpenSpec.ofChange gapsWaitsWrong)

/-- 'terracelaw24.GapsAsks': WHATEVER THE INPUT: true; the input reads as it did. -/
def gapsAsksSpec : ChangeSpec := { name := "gapsAsks", fn := fun _ => fun
  | [d1, d2, d3] => { results := [.lit (.bool true)], args := [d1, d2, d3] }
  | _ => none }
def gapsAsksRow : OpenClaim := { program := "ytkgngmmlfoiajaa", sum := "ba9e26d12e8034026f245d1073d7dfa1291538cc2fb4c9df5a1d15d207150c68", func := "terrace/terracelaw24.GapsAsks", spec := "gapsAsks", inPlace := ["slices.overlaps[terrace/gaps.Hole]"], unfollowed := true, recurses := true, apart := false }
def GapsAsksSaid : Prop := gapsAsksRow.holds Try.pinned (OpenSpec.ofChange gapsAsksSpec)

/-- ITS FALSE NEIGHBOUR: 'it returns false'. Refute it at one input. -/
def gapsAsksWrong : ChangeSpec := { name := "gapsAsks", fn := fun _ => fun
  | [d1, d2, d3] => { results := [.lit (.bool false)], args := [d1, d2, d3] }
  | _ => none }
def GapsAsksWrongFalsely : Prop := gapsAsksRow.holds Try.pinned (OpenSpec.ofChange gapsAsksWrong)

/-- 'terracelaw24.GapsTired': WHATEVER THE INPUT: true; the input reads as it did. -/
def gapsTiredSpec : ChangeSpec := { name := "gapsTired", fn := fun _ => fun
  | [d1, d2] => { results := [.lit (.bool true)], args := [d1, d2] }
  | _ => none }
def gapsTiredRow : OpenClaim := { program := "ytkgngmmlfoiajaa", sum := "ba9e26d12e8034026f245d1073d7dfa1291538cc2fb4c9df5a1d15d207150c68", func := "terrace/terracelaw24.GapsTired", spec := "gapsTired", inPlace := ["slices.overlaps[terrace/gaps.Hole]"], unfollowed := true, recurses := true, apart := false }
def GapsTiredSaid : Prop := gapsTiredRow.holds Try.pinned (OpenSpec.ofChange gapsTiredSpec)

/-- ITS FALSE NEIGHBOUR: 'it returns false'. Refute it at one input. -/
def gapsTiredWrong : ChangeSpec := { name := "gapsTired", fn := fun _ => fun
  | [d1, d2] => { results := [.lit (.bool false)], args := [d1, d2] }
  | _ => none }
def GapsTiredWrongFalsely : Prop := gapsTiredRow.holds Try.pinned (OpenSpec.ofChange gapsTiredWrong)

/- THE SECOND FORM. 'bulk': how many values and letters a reading holds, each counted each time it is reached (what is shared counts as often as it is met; a slice's spare places count too). A statement '..UptoSaid' is the law's where the arguments, and the package variables that the reading takes, are together of bulk at most 1048576: NARROWER than '..Said'. Prove '..Said' where nothing that the law and all that it calls make is longer than what came in: it says more and counts as full. Else prove '..UptoSaid'. A law counts once. -/
mutual
def uptoBulk {H : Type} : DataW H → Nat
  | .lit (.string bytes) => bytes.length + 1
  | .lit _ => 1
  | .nil => 1
  | .ptr d => uptoBulk d + 1
  | .slice elems spare => uptoBulkAll elems + uptoBulkAll spare + 1
  | .agg parts => uptoBulkAll parts + 1
  | .iface _ d => uptoBulk d + 1
  | .map entries => uptoBulkEntries entries + 1
  | .held _ => 1
def uptoBulkAll {H : Type} : List (DataW H) → Nat
  | [] => 0
  | d :: r => uptoBulk d + uptoBulkAll r
def uptoBulkEntries {H : Type} : List (Lit × DataW H) → Nat
  | [] => 0
  | x :: r => uptoBulkEntry x + uptoBulkEntries r
def uptoBulkEntry {H : Type} : Lit × DataW H → Nat
  | (.string bytes, d) => bytes.length + uptoBulk d + 1
  | (_, d) => uptoBulk d + 1
 end
def uptoSmall : (H : Type) → List (DataW H) → Bool := fun _ ds => decide (uptoBulkAll ds ≤ 1048576)
def OpenSpec.upto (s : _root_.Go.ChangeSpec) : _root_.Go.OpenSpec := { _root_.Go.OpenSpec.ofChange s with cond := some uptoSmall }

/-- 'terracelaw24.GapsWaits', WHERE WHAT IT READS IS OF BULK AT MOST 1048576: true; the input reads as it did. -/
def gapsWaitsUptoRow : OpenClaim := { program := "ytkgngmmlfoiajaa", sum := "ba9e26d12e8034026f245d1073d7dfa1291538cc2fb4c9df5a1d15d207150c68", func := "terrace/terracelaw24.GapsWaits", spec := "gapsWaits", inPlace := ["slices.overlaps[terrace/gaps.Hole]"], unfollowed := true, recurses := true, apart := false, narrowed := true }
def GapsWaitsUptoSaid : Prop := gapsWaitsUptoRow.holds Try.pinned (OpenSpec.upto gapsWaitsSpec)

/-- 'terracelaw24.GapsAsks', WHERE WHAT IT READS IS OF BULK AT MOST 1048576: true; the input reads as it did. -/
def gapsAsksUptoRow : OpenClaim := { program := "ytkgngmmlfoiajaa", sum := "ba9e26d12e8034026f245d1073d7dfa1291538cc2fb4c9df5a1d15d207150c68", func := "terrace/terracelaw24.GapsAsks", spec := "gapsAsks", inPlace := ["slices.overlaps[terrace/gaps.Hole]"], unfollowed := true, recurses := true, apart := false, narrowed := true }
def GapsAsksUptoSaid : Prop := gapsAsksUptoRow.holds Try.pinned (OpenSpec.upto gapsAsksSpec)

/-- 'terracelaw24.GapsTired', WHERE WHAT IT READS IS OF BULK AT MOST 1048576: true; the input reads as it did. -/
def gapsTiredUptoRow : OpenClaim := { program := "ytkgngmmlfoiajaa", sum := "ba9e26d12e8034026f245d1073d7dfa1291538cc2fb4c9df5a1d15d207150c68", func := "terrace/terracelaw24.GapsTired", spec := "gapsTired", inPlace := ["slices.overlaps[terrace/gaps.Hole]"], unfollowed := true, recurses := true, apart := false, narrowed := true }
def GapsTiredUptoSaid : Prop := gapsTiredUptoRow.holds Try.pinned (OpenSpec.upto gapsTiredSpec)

end Rows
end Go.Proofs.Ytkgngmmlfoiajaa
