/-
  No cell of these rows narrows 'for every input' (looked for: loops, veiled, ifaces, maps, wideKeys, modest, calm, conditions, laid).
  DERIVED. THE GIVEN ROWS OF THIS SEAT. 5 by the template 'for every input the law returns true; each argument reads behind the call as it read before'; 0 by the template 'total and deterministic' (their statements: YtoofhjhnfeamgaaTotals.lean).
  GIVEN WITH THE SEED: the statements are not yours to turn. If you find one false, say at which input.
  Laid BY PROGRAM, IN A SANDBOX (cutbox-rows.mjs): the forced cells as the released guide's own fill.sh prints them over the translation 7013b804a6e9d13d… (all of the seat's roots in one cut). By AI agents, Wed Nov 11 2026. No macro, syntax, notation, axiom, sorry.
-/
import Derived.Test.YtoofhjhnfeamgaaChecked
import GoSem.Claim
import GoSem.ClaimJoined
import GoSem.ClaimMapViews
import Derived.JoinedTies
import Derived.KernelRfl
namespace Go.Proofs.Ytoofhjhnfeamgaa
/- THE CELL 'sum', in the pinned program and in every row, IS THE sha256 OF THE DUMP (.gsa) THAT YtoofhjhnfeamgaaProg.lean LOADS. Nothing in Lean hashes anything: it is a label: what it is worth is what the hold of that sum in a sandbox is worth. -/
noncomputable def Try.pinned : Pinned := { name := "ytoofhjhnfeamgaa", sum := "7013b804a6e9d13dd56152cebe8ba3490f39d67ac75229580f56c4c199e5ea0e", checked := Try.checked }
namespace Rows
def none {H : Type} : Left H := { results := [], args := [] }

/-- 'terracelaw22.StripeNew': WHATEVER THE INPUT: true; the input reads as it did. -/
def stripeNewSpec : ChangeSpec := { name := "stripeNew", fn := fun _ => fun
  | [d] => { results := [.lit (.bool true)], args := [d] }
  | _ => none }
def stripeNewRow : OpenClaim := { program := "ytoofhjhnfeamgaa", sum := "7013b804a6e9d13dd56152cebe8ba3490f39d67ac75229580f56c4c199e5ea0e", func := "terrace/terracelaw22.StripeNew", spec := "stripeNew", inPlace := ["slices.overlaps[[2]int]"], unfollowed := true, recurses := true, apart := false }
def StripeNewSaid : Prop := stripeNewRow.holds Try.pinned (OpenSpec.ofChange stripeNewSpec)

/-- ITS FALSE NEIGHBOUR: 'it returns false'. Refute it at one input. -/
def stripeNewWrong : ChangeSpec := { name := "stripeNew", fn := fun _ => fun
  | [d] => { results := [.lit (.bool false)], args := [d] }
  | _ => none }
def StripeNewWrongFalsely : Prop := stripeNewRow.holds Try.pinned (OpenSpec.ofChange stripeNewWrong)

/-- 'terracelaw22.StripeBlocks': WHATEVER THE INPUT: true; the input reads as it did. -/
def stripeBlocksSpec : ChangeSpec := { name := "stripeBlocks", fn := fun _ => fun
  | [d1, d2] => { results := [.lit (.bool true)], args := [d1, d2] }
  | _ => none }
def stripeBlocksRow : OpenClaim := { program := "ytoofhjhnfeamgaa", sum := "7013b804a6e9d13dd56152cebe8ba3490f39d67ac75229580f56c4c199e5ea0e", func := "terrace/terracelaw22.StripeBlocks", spec := "stripeBlocks", inPlace := ["slices.overlaps[[2]int]"], unfollowed := true, recurses := true, apart := false }
def StripeBlocksSaid : Prop := stripeBlocksRow.holds Try.pinned (OpenSpec.ofChange stripeBlocksSpec)

/-- ITS FALSE NEIGHBOUR: 'it returns false'. Refute it at one input. -/
def stripeBlocksWrong : ChangeSpec := { name := "stripeBlocks", fn := fun _ => fun
  | [d1, d2] => { results := [.lit (.bool false)], args := [d1, d2] }
  | _ => none }
def StripeBlocksWrongFalsely : Prop := stripeBlocksRow.holds Try.pinned (OpenSpec.ofChange stripeBlocksWrong)

/-- 'terracelaw22.StripeShares': WHATEVER THE INPUT: true; the input reads as it did. -/
def stripeSharesSpec : ChangeSpec := { name := "stripeShares", fn := fun _ => fun
  | [d1, d2] => { results := [.lit (.bool true)], args := [d1, d2] }
  | _ => none }
def stripeSharesRow : OpenClaim := { program := "ytoofhjhnfeamgaa", sum := "7013b804a6e9d13dd56152cebe8ba3490f39d67ac75229580f56c4c199e5ea0e", func := "terrace/terracelaw22.StripeShares", spec := "stripeShares", inPlace := ["slices.overlaps[[2]int]"], unfollowed := true, recurses := true, apart := false }
def StripeSharesSaid : Prop := stripeSharesRow.holds Try.pinned (OpenSpec.ofChange stripeSharesSpec)

/-- ITS FALSE NEIGHBOUR: 'it returns false'. Refute it at one input. -/
def stripeSharesWrong : ChangeSpec := { name := "stripeShares", fn := fun _ => fun
  | [d1, d2] => { results := [.lit (.bool false)], args := [d1, d2] }
  | _ => none }
def StripeSharesWrongFalsely : Prop := stripeSharesRow.holds Try.pinned (OpenSpec.ofChange stripeSharesWrong)

/-- 'terracelaw22.StripeLayers': WHATEVER THE INPUT: true; the input reads as it did. -/
def stripeLayersSpec : ChangeSpec := { name := "stripeLayers", fn := fun _ => fun
  | [d1, d2, d3] => { results := [.lit (.bool true)], args := [d1, d2, d3] }
  | _ => none }
def stripeLayersRow : OpenClaim := { program := "ytoofhjhnfeamgaa", sum := "7013b804a6e9d13dd56152cebe8ba3490f39d67ac75229580f56c4c199e5ea0e", func := "terrace/terracelaw22.StripeLayers", spec := "stripeLayers", inPlace := ["slices.overlaps[[2]int]"], unfollowed := true, recurses := true, apart := false }
def StripeLayersSaid : Prop := stripeLayersRow.holds Try.pinned (OpenSpec.ofChange stripeLayersSpec)

/-- ITS FALSE NEIGHBOUR: 'it returns false'. Refute it at one input. -/
def stripeLayersWrong : ChangeSpec := { name := "stripeLayers", fn := fun _ => fun
  | [d1, d2, d3] => { results := [.lit (.bool false)], args := [d1, d2, d3] }
  | _ => none }
def StripeLayersWrongFalsely : Prop := stripeLayersRow.holds Try.pinned (OpenSpec.ofChange stripeLayersWrong)

/-- 'terracelaw22.StripeUpto': WHATEVER THE INPUT: true; the input reads as it did. -/
def stripeUptoSpec : ChangeSpec := { name := "stripeUpto", fn := fun _ => fun
  | [d1, d2, d3] => { results := [.lit (.bool true)], args := [d1, d2, d3] }
  | _ => none }
def stripeUptoRow : OpenClaim := { program := "ytoofhjhnfeamgaa", sum := "7013b804a6e9d13dd56152cebe8ba3490f39d67ac75229580f56c4c199e5ea0e", func := "terrace/terracelaw22.StripeUpto", spec := "stripeUpto", inPlace := ["slices.overlaps[[2]int]"], unfollowed := true, recurses := true, apart := false }
def StripeUptoSaid : Prop := stripeUptoRow.holds Try.pinned (OpenSpec.ofChange stripeUptoSpec)

/-- ITS FALSE NEIGHBOUR: 'it returns false'. Refute it at one input. -/
def stripeUptoWrong : ChangeSpec := { name := "stripeUpto", fn := fun _ => fun
  | [d1, d2, d3] => { results := [.lit (.bool false)], args := [d1, d2, d3] }
  | _ => none }
def StripeUptoWrongFalsely : Prop := stripeUptoRow.holds Try.pinned (OpenSpec.ofChange stripeUptoWrong)

/- THE SECOND FORM. 'bulk': how many values and letters a reading holds, each counted each time it is reached (what is shared counts as often as it is met; a slice's spare places count too). A statement '..UptoSaid' is the law's where the arguments, and the package variables that the reading takes, are together of bulk at most 1048576: NARROWER than '..Said'. Prove '..Said' where nothing that the law and all that it calls make is longer than what came in: it says more and counts as full. Else prove '..UptoSaid'. A law counts once. -/
mutual
def uptoBulk {H : Type} : DataW H → Nat
  | .lit (.string bytes) => bytes.length + 1
  | .lit _ => 1
  | .nil => 1
  | .ptr d => uptoBulk d + 1
  | .slice elems spare => uptoBulkAll elems + uptoBulkAll spare + 1
  | .agg parts => uptoBulkAll parts + 1
  | .iface _ d => uptoBulk d + 1
  | .map entries => uptoBulkEntries entries + 1
  | .held _ => 1
def uptoBulkAll {H : Type} : List (DataW H) → Nat
  | [] => 0
  | d :: r => uptoBulk d + uptoBulkAll r
def uptoBulkEntries {H : Type} : List (Lit × DataW H) → Nat
  | [] => 0
  | x :: r => uptoBulkEntry x + uptoBulkEntries r
def uptoBulkEntry {H : Type} : Lit × DataW H → Nat
  | (.string bytes, d) => bytes.length + uptoBulk d + 1
  | (_, d) => uptoBulk d + 1
 end
def uptoSmall : (H : Type) → List (DataW H) → Bool := fun _ ds => decide (uptoBulkAll ds ≤ 1048576)
def OpenSpec.upto (s : _root_.Go.ChangeSpec) : _root_.Go.OpenSpec := { _root_.Go.OpenSpec.ofChange s with cond := some uptoSmall }

/-- 'terracelaw22.StripeNew', WHERE WHAT IT READS IS OF BULK AT MOST 1048576: true; the input reads as it did. -/
def stripeNewUptoRow : OpenClaim := { program := "ytoofhjhnfeamgaa", sum := "7013b804a6e9d13dd56152cebe8ba3490f39d67ac75229580f56c4c199e5ea0e", func := "terrace/terracelaw22.StripeNew", spec := "stripeNew", inPlace := ["slices.overlaps[[2]int]"], unfollowed := true, recurses := true, apart := false, narrowed := true }
def StripeNewUptoSaid : Prop := stripeNewUptoRow.holds Try.pinned (OpenSpec.upto stripeNewSpec)

/-- 'terracelaw22.StripeBlocks', WHERE WHAT IT READS IS OF BULK AT MOST 1048576: true; the input reads as it did. -/
def stripeBlocksUptoRow : OpenClaim := { program := "ytoofhjhnfeamgaa", sum := "7013b804a6e9d13dd56152cebe8ba3490f39d67ac75229580f56c4c199e5ea0e", func := "terrace/terracelaw22.StripeBlocks", spec := "stripeBlocks", inPlace := ["slices.overlaps[[2]int]"], unfollowed := true, recurses := true, apart := false, narrowed := true }
def StripeBlocksUptoSaid : Prop := stripeBlocksUptoRow.holds Try.pinned (OpenSpec.upto stripeBlocksSpec)

/-- 'terracelaw22.StripeShares', WHERE WHAT IT READS IS OF BULK AT MOST 1048576: true; the input reads as it did. -/
def stripeSharesUptoRow : OpenClaim := { program := "ytoofhjhnfeamgaa", sum := "7013b804a6e9d13dd56152cebe8ba3490f39d67ac75229580f56c4c199e5ea0e", func := "terrace/terracelaw22.StripeShares", spec := "stripeShares", inPlace := ["slices.overlaps[[2]int]"], unfollowed := true, recurses := true, apart := false, narrowed := true }
def StripeSharesUptoSaid : Prop := stripeSharesUptoRow.holds Try.pinned (OpenSpec.upto stripeSharesSpec)

/-- 'terracelaw22.StripeLayers', WHERE WHAT IT READS IS OF BULK AT MOST 1048576: true; the input reads as it did. -/
def stripeLayersUptoRow : OpenClaim := { program := "ytoofhjhnfeamgaa", sum := "7013b804a6e9d13dd56152cebe8ba3490f39d67ac75229580f56c4c199e5ea0e", func := "terrace/terracelaw22.StripeLayers", spec := "stripeLayers", inPlace := ["slices.overlaps[[2]int]"], unfollowed := true, recurses := true, apart := false, narrowed := true }
def StripeLayersUptoSaid : Prop := stripeLayersUptoRow.holds Try.pinned (OpenSpec.upto stripeLayersSpec)

/-- 'terracelaw22.StripeUpto', WHERE WHAT IT READS IS OF BULK AT MOST 1048576: true; the input reads as it did. -/
def stripeUptoUptoRow : OpenClaim := { program := "ytoofhjhnfeamgaa", sum := "7013b804a6e9d13dd56152cebe8ba3490f39d67ac75229580f56c4c199e5ea0e", func := "terrace/terracelaw22.StripeUpto", spec := "stripeUpto", inPlace := ["slices.overlaps[[2]int]"], unfollowed := true, recurses := true, apart := false, narrowed := true }
def StripeUptoUptoSaid : Prop := stripeUptoUptoRow.holds Try.pinned (OpenSpec.upto stripeUptoSpec)

end Rows
end Go.Proofs.Ytoofhjhnfeamgaa
