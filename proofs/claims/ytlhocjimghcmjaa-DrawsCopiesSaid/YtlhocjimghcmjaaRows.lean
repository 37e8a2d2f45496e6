/-
  No cell of these rows narrows 'for every input' (looked for: loops, veiled, ifaces, maps, wideKeys, modest, calm, conditions, laid).
  DERIVED. THE GIVEN ROWS OF THIS SEAT. 4 by the template 'for every input the law returns true; each argument reads behind the call as it read before'; 0 by the template 'total and deterministic' (their statements: YtlhocjimghcmjaaTotals.lean).
  GIVEN WITH THE SEED: the statements are not yours to turn. If you find one false, say at which input.
  Laid BY PROGRAM, IN A SANDBOX (cutbox-rows.mjs): the forced cells as the released guide's own fill.sh prints them over the translation f88f8d2b7b56982b… (all of the seat's roots in one cut). By AI agents, Wed Nov 11 2026. No macro, syntax, notation, axiom, sorry.
-/
import Derived.Test.YtlhocjimghcmjaaChecked
import GoSem.Claim
import GoSem.ClaimJoined
import GoSem.ClaimMapViews
import Derived.JoinedTies
import Derived.KernelRfl
namespace Go.Proofs.Ytlhocjimghcmjaa
/- THE CELL 'sum', in the pinned program and in every row, IS THE sha256 OF THE DUMP (.gsa) THAT YtlhocjimghcmjaaProg.lean LOADS. Nothing in Lean hashes anything: it is a label: what it is worth is what the hold of that sum in a sandbox is worth. -/
noncomputable def Try.pinned : Pinned := { name := "ytlhocjimghcmjaa", sum := "f88f8d2b7b56982baeeef54cf4861b0212c96bedbb1c1fdf906a968b199bab39", checked := Try.checked }
namespace Rows
def none {H : Type} : Left H := { results := [], args := [] }

/-- 'terracelaw10.DrawsNext': WHATEVER THE INPUT: true; the input reads as it did. -/
def drawsNextSpec : ChangeSpec := { name := "drawsNext", fn := fun _ => fun
  | [d1, d2] => { results := [.lit (.bool true)], args := [d1, d2] }
  | _ => none }
def drawsNextRow : OpenClaim := { program := "ytlhocjimghcmjaa", sum := "f88f8d2b7b56982baeeef54cf4861b0212c96bedbb1c1fdf906a968b199bab39", func := "terrace/terracelaw10.DrawsNext", spec := "drawsNext", inPlace := ["sync/atomic.AddInt64", "sync/atomic.LoadInt64"], apart := false }
def DrawsNextSaid : Prop := drawsNextRow.holds Try.pinned (OpenSpec.ofChange drawsNextSpec)

/-- ITS FALSE NEIGHBOUR: 'it returns false'. Refute it at one input. -/
def drawsNextWrong : ChangeSpec := { name := "drawsNext", fn := fun _ => fun
  | [d1, d2] => { results := [.lit (.bool false)], args := [d1, d2] }
  | _ => none }
def DrawsNextWrongFalsely : Prop := drawsNextRow.holds Try.pinned (OpenSpec.ofChange drawsNextWrong)

/-- 'terracelaw10.DrawsAt': WHATEVER THE INPUT: true; the input reads as it did. -/
def drawsAtSpec : ChangeSpec := { name := "drawsAt", fn := fun _ => fun
  | [d1, d2] => { results := [.lit (.bool true)], args := [d1, d2] }
  | _ => none }
def drawsAtRow : OpenClaim := { program := "ytlhocjimghcmjaa", sum := "f88f8d2b7b56982baeeef54cf4861b0212c96bedbb1c1fdf906a968b199bab39", func := "terrace/terracelaw10.DrawsAt", spec := "drawsAt", inPlace := ["sync/atomic.AddInt64", "sync/atomic.LoadInt64"], apart := false }
def DrawsAtSaid : Prop := drawsAtRow.holds Try.pinned (OpenSpec.ofChange drawsAtSpec)

/-- ITS FALSE NEIGHBOUR: 'it returns false'. Refute it at one input. -/
def drawsAtWrong : ChangeSpec := { name := "drawsAt", fn := fun _ => fun
  | [d1, d2] => { results := [.lit (.bool false)], args := [d1, d2] }
  | _ => none }
def DrawsAtWrongFalsely : Prop := drawsAtRow.holds Try.pinned (OpenSpec.ofChange drawsAtWrong)

/-- 'terracelaw10.DrawsCopies': WHATEVER THE INPUT: true; the input reads as it did. -/
def drawsCopiesSpec : ChangeSpec := { name := "drawsCopies", fn := fun _ => fun
  | [d1, d2, d3] => { results := [.lit (.bool true)], args := [d1, d2, d3] }
  | _ => none }
def drawsCopiesRow : OpenClaim := { program := "ytlhocjimghcmjaa", sum := "f88f8d2b7b56982baeeef54cf4861b0212c96bedbb1c1fdf906a968b199bab39", func := "terrace/terracelaw10.DrawsCopies", spec := "drawsCopies", inPlace := ["sync/atomic.AddInt64", "sync/atomic.LoadInt64", "sync/atomic.StoreInt64"], apart := false }
def DrawsCopiesSaid : Prop := drawsCopiesRow.holds Try.pinned (OpenSpec.ofChange drawsCopiesSpec)

/-- ITS FALSE NEIGHBOUR: 'it returns false'. Refute it at one input. -/
def drawsCopiesWrong : ChangeSpec := { name := "drawsCopies", fn := fun _ => fun
  | [d1, d2, d3] => { results := [.lit (.bool false)], args := [d1, d2, d3] }
  | _ => none }
def DrawsCopiesWrongFalsely : Prop := drawsCopiesRow.holds Try.pinned (OpenSpec.ofChange drawsCopiesWrong)

/-- 'terracelaw10.DrawsUnder': WHATEVER THE INPUT: true; the input reads as it did. -/
def drawsUnderSpec : ChangeSpec := { name := "drawsUnder", fn := fun _ => fun
  | [d1, d2] => { results := [.lit (.bool true)], args := [d1, d2] }
  | _ => none }
def drawsUnderRow : OpenClaim := { program := "ytlhocjimghcmjaa", sum := "f88f8d2b7b56982baeeef54cf4861b0212c96bedbb1c1fdf906a968b199bab39", func := "terrace/terracelaw10.DrawsUnder", spec := "drawsUnder", inPlace := ["sync/atomic.AddInt64", "sync/atomic.LoadInt64"], apart := false }
def DrawsUnderSaid : Prop := drawsUnderRow.holds Try.pinned (OpenSpec.ofChange drawsUnderSpec)

/-- ITS FALSE NEIGHBOUR: 'it returns false'. Refute it at one input. -/
def drawsUnderWrong : ChangeSpec := { name := "drawsUnder", fn := fun _ => fun
  | [d1, d2] => { results := [.lit (.bool false)], args := [d1, d2] }
  | _ => none }
def DrawsUnderWrongFalsely : Prop := drawsUnderRow.holds Try.pinned (OpenSpec.ofChange drawsUnderWrong)

/- THE SECOND FORM. 'bulk': how many values and letters a reading holds, each counted each time it is reached (what is shared counts as often as it is met; a slice's spare places count too). A statement '..UptoSaid' is the law's where the arguments, and the package variables that the reading takes, are together of bulk at most 1048576: NARROWER than '..Said'. Prove '..Said' where nothing that the law and all that it calls make is longer than what came in: it says more and counts as full. Else prove '..UptoSaid'. A law counts once. -/
mutual
def uptoBulk {H : Type} : DataW H → Nat
  | .lit (.string bytes) => bytes.length + 1
  | .lit _ => 1
  | .nil => 1
  | .ptr d => uptoBulk d + 1
  | .slice elems spare => uptoBulkAll elems + uptoBulkAll spare + 1
  | .agg parts => uptoBulkAll parts + 1
  | .iface _ d => uptoBulk d + 1
  | .map entries => uptoBulkEntries entries + 1
  | .held _ => 1
def uptoBulkAll {H : Type} : List (DataW H) → Nat
  | [] => 0
  | d :: r => uptoBulk d + uptoBulkAll r
def uptoBulkEntries {H : Type} : List (Lit × DataW H) → Nat
  | [] => 0
  | x :: r => uptoBulkEntry x + uptoBulkEntries r
def uptoBulkEntry {H : Type} : Lit × DataW H → Nat
  | (.string bytes, d) => bytes.length + uptoBulk d + 1
  | (_, d) => uptoBulk d + 1
 end
def uptoSmall : (H : Type) → List (DataW H) → Bool := fun _ ds => decide (uptoBulkAll ds ≤ 1048576)
def OpenSpec.upto (s : _root_.Go.ChangeSpec) : _root_.Go.OpenSpec := { _root_.Go.OpenSpec.ofChange s with cond := some uptoSmall }

/-- 'terracelaw10.DrawsNext', WHERE WHAT IT READS IS OF BULK AT MOST 1048576: true; the input reads as it did. -/
def drawsNextUptoRow : OpenClaim := { program := "ytlhocjimghcmjaa", sum := "f88f8d2b7b56982baeeef54cf4861b0212c96bedbb1c1fdf906a968b199bab39", func := "terrace/terracelaw10.DrawsNext", spec := "drawsNext", inPlace := ["sync/atomic.AddInt64", "sync/atomic.LoadInt64"], apart := false, narrowed := true }
def DrawsNextUptoSaid : Prop := drawsNextUptoRow.holds Try.pinned (OpenSpec.upto drawsNextSpec)

/-- 'terracelaw10.DrawsAt', WHERE WHAT IT READS IS OF BULK AT MOST 1048576: true; the input reads as it did. -/
def drawsAtUptoRow : OpenClaim := { program := "ytlhocjimghcmjaa", sum := "f88f8d2b7b56982baeeef54cf4861b0212c96bedbb1c1fdf906a968b199bab39", func := "terrace/terracelaw10.DrawsAt", spec := "drawsAt", inPlace := ["sync/atomic.AddInt64", "sync/atomic.LoadInt64"], apart := false, narrowed := true }
def DrawsAtUptoSaid : Prop := drawsAtUptoRow.holds Try.pinned (OpenSpec.upto drawsAtSpec)

/-- 'terracelaw10.DrawsCopies', WHERE WHAT IT READS IS OF BULK AT MOST 1048576: true; the input reads as it did. -/
def drawsCopiesUptoRow : OpenClaim := { program := "ytlhocjimghcmjaa", sum := "f88f8d2b7b56982baeeef54cf4861b0212c96bedbb1c1fdf906a968b199bab39", func := "terrace/terracelaw10.DrawsCopies", spec := "drawsCopies", inPlace := ["sync/atomic.AddInt64", "sync/atomic.LoadInt64", "sync/atomic.StoreInt64"], apart := false, narrowed := true }
def DrawsCopiesUptoSaid : Prop := drawsCopiesUptoRow.holds Try.pinned (OpenSpec.upto drawsCopiesSpec)

/-- 'terracelaw10.DrawsUnder', WHERE WHAT IT READS IS OF BULK AT MOST 1048576: true; the input reads as it did. -/
def drawsUnderUptoRow : OpenClaim := { program := "ytlhocjimghcmjaa", sum := "f88f8d2b7b56982baeeef54cf4861b0212c96bedbb1c1fdf906a968b199bab39", func := "terrace/terracelaw10.DrawsUnder", spec := "drawsUnder", inPlace := ["sync/atomic.AddInt64", "sync/atomic.LoadInt64"], apart := false, narrowed := true }
def DrawsUnderUptoSaid : Prop := drawsUnderUptoRow.holds Try.pinned (OpenSpec.upto drawsUnderSpec)

end Rows
end Go.Proofs.Ytlhocjimghcmjaa
