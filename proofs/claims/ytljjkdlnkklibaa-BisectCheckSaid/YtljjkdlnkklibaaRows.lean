/-
  No cell of these rows narrows 'for every input' (looked for: loops, veiled, ifaces, maps, wideKeys, modest, calm, conditions, laid).
  DERIVED. THE GIVEN ROWS OF THIS SEAT. 4 by the template 'for every input the law returns true; each argument reads behind the call as it read before'; 0 by the template 'total and deterministic' (their statements: YtljjkdlnkklibaaTotals.lean).
  GIVEN WITH THE SEED: the statements are not yours to turn. If you find one false, say at which input.
  Laid BY PROGRAM, IN A SANDBOX (cutbox-rows.mjs): the forced cells as the released guide's own fill.sh prints them over the translation 9944a40f3fb8c8b0… (all of the seat's roots in one cut). By AI agents, Wed Nov 11 2026. No macro, syntax, notation, axiom, sorry.
-/
import Derived.Test.YtljjkdlnkklibaaChecked
import GoSem.Claim
import GoSem.ClaimJoined
import GoSem.ClaimMapViews
import Derived.JoinedTies
import Derived.KernelRfl
namespace Go.Proofs.Ytljjkdlnkklibaa
/- THE CELL 'sum', in the pinned program and in every row, IS THE sha256 OF THE DUMP (.gsa) THAT YtljjkdlnkklibaaProg.lean LOADS. Nothing in Lean hashes anything: it is a label: what it is worth is what the hold of that sum in a sandbox is worth. -/
noncomputable def Try.pinned : Pinned := { name := "ytljjkdlnkklibaa", sum := "9944a40f3fb8c8b0bce52a121ebe8b5f0c1c1e8df2cd1f44f87948991fce71a7", checked := Try.checked }
namespace Rows
def none {H : Type} : Left H := { results := [], args := [] }

/-- 'refuterlaw35.BisectFind': WHATEVER THE INPUT: true; the input reads as it did. -/
def bisectFindSpec : ChangeSpec := { name := "bisectFind", fn := fun _ => fun
  | [d1, d2, d3, d4] => { results := [.lit (.bool true)], args := [d1, d2, d3, d4] }
  | _ => none }
def bisectFindRow : OpenClaim := { program := "ytljjkdlnkklibaa", sum := "9944a40f3fb8c8b0bce52a121ebe8b5f0c1c1e8df2cd1f44f87948991fce71a7", func := "refuter/refuterlaw35.BisectFind", spec := "bisectFind", unfollowed := true, recurses := true, apart := false }
def BisectFindSaid : Prop := bisectFindRow.holds Try.pinned (OpenSpec.ofChange bisectFindSpec)

/-- ITS FALSE NEIGHBOUR: 'it returns false'. Refute it at one input. -/
def bisectFindWrong : ChangeSpec := { name := "bisectFind", fn := fun _ => fun
  | [d1, d2, d3, d4] => { results := [.lit (.bool false)], args := [d1, d2, d3, d4] }
  | _ => none }
def BisectFindWrongFalsely : Prop := bisectFindRow.holds Try.pinned (OpenSpec.ofChange bisectFindWrong)

/-- 'refuterlaw35.BisectFirst': WHATEVER THE INPUT: true; the input reads as it did. -/
def bisectFirstSpec : ChangeSpec := { name := "bisectFirst", fn := fun _ => fun
  | [d1, d2, d3, d4] => { results := [.lit (.bool true)], args := [d1, d2, d3, d4] }
  | _ => none }
def bisectFirstRow : OpenClaim := { program := "ytljjkdlnkklibaa", sum := "9944a40f3fb8c8b0bce52a121ebe8b5f0c1c1e8df2cd1f44f87948991fce71a7", func := "refuter/refuterlaw35.BisectFirst", spec := "bisectFirst", unfollowed := true, recurses := true, apart := false }
def BisectFirstSaid : Prop := bisectFirstRow.holds Try.pinned (OpenSpec.ofChange bisectFirstSpec)

/-- ITS FALSE NEIGHBOUR: 'it returns false'. Refute it at one input. -/
def bisectFirstWrong : ChangeSpec := { name := "bisectFirst", fn := fun _ => fun
  | [d1, d2, d3, d4] => { results := [.lit (.bool false)], args := [d1, d2, d3, d4] }
  | _ => none }
def BisectFirstWrongFalsely : Prop := bisectFirstRow.holds Try.pinned (OpenSpec.ofChange bisectFirstWrong)

/-- 'refuterlaw35.BisectCheck': WHATEVER THE INPUT: true; the input reads as it did. -/
def bisectCheckSpec : ChangeSpec := { name := "bisectCheck", fn := fun _ => fun
  | [d1, d2, d3, d4, d5] => { results := [.lit (.bool true)], args := [d1, d2, d3, d4, d5] }
  | _ => none }
def bisectCheckRow : OpenClaim := { program := "ytljjkdlnkklibaa", sum := "9944a40f3fb8c8b0bce52a121ebe8b5f0c1c1e8df2cd1f44f87948991fce71a7", func := "refuter/refuterlaw35.BisectCheck", spec := "bisectCheck", unfollowed := true, recurses := true, apart := false }
def BisectCheckSaid : Prop := bisectCheckRow.holds Try.pinned (OpenSpec.ofChange bisectCheckSpec)

/-- ITS FALSE NEIGHBOUR: 'it returns false'. Refute it at one input. -/
def bisectCheckWrong : ChangeSpec := { name := "bisectCheck", fn := fun _ => fun
  | [d1, d2, d3, d4, d5] => { results := [.lit (.bool false)], args := [d1, d2, d3, d4, d5] }
  | _ => none }
def BisectCheckWrongFalsely : Prop := bisectCheckRow.holds Try.pinned (OpenSpec.ofChange bisectCheckWrong)

/-- 'refuterlaw35.BisectEdit': WHATEVER THE INPUT: true; the input reads as it did. -/
def bisectEditSpec : ChangeSpec := { name := "bisectEdit", fn := fun _ => fun
  | [d1, d2, d3] => { results := [.lit (.bool true)], args := [d1, d2, d3] }
  | _ => none }
def bisectEditRow : OpenClaim := { program := "ytljjkdlnkklibaa", sum := "9944a40f3fb8c8b0bce52a121ebe8b5f0c1c1e8df2cd1f44f87948991fce71a7", func := "refuter/refuterlaw35.BisectEdit", spec := "bisectEdit", unfollowed := true, recurses := true, apart := false }
def BisectEditSaid : Prop := bisectEditRow.holds Try.pinned (OpenSpec.ofChange bisectEditSpec)

/-- ITS FALSE NEIGHBOUR: 'it returns false'. Refute it at one input. -/
def bisectEditWrong : ChangeSpec := { name := "bisectEdit", fn := fun _ => fun
  | [d1, d2, d3] => { results := [.lit (.bool false)], args := [d1, d2, d3] }
  | _ => none }
def BisectEditWrongFalsely : Prop := bisectEditRow.holds Try.pinned (OpenSpec.ofChange bisectEditWrong)

/- THE SECOND FORM. 'bulk': how many values and letters a reading holds, each counted each time it is reached (what is shared counts as often as it is met; a slice's spare places count too). A statement '..UptoSaid' is the law's where the arguments, and the package variables that the reading takes, are together of bulk at most 1048576: NARROWER than '..Said'. Prove '..Said' where nothing that the law and all that it calls make is longer than what came in: it says more and counts as full. Else prove '..UptoSaid'. A law counts once. -/
mutual
def uptoBulk {H : Type} : DataW H → Nat
  | .lit (.string bytes) => bytes.length + 1
  | .lit _ => 1
  | .nil => 1
  | .ptr d => uptoBulk d + 1
  | .slice elems spare => uptoBulkAll elems + uptoBulkAll spare + 1
  | .agg parts => uptoBulkAll parts + 1
  | .iface _ d => uptoBulk d + 1
  | .map entries => uptoBulkEntries entries + 1
  | .held _ => 1
def uptoBulkAll {H : Type} : List (DataW H) → Nat
  | [] => 0
  | d :: r => uptoBulk d + uptoBulkAll r
def uptoBulkEntries {H : Type} : List (Lit × DataW H) → Nat
  | [] => 0
  | x :: r => uptoBulkEntry x + uptoBulkEntries r
def uptoBulkEntry {H : Type} : Lit × DataW H → Nat
  | (.string bytes, d) => bytes.length + uptoBulk d + 1
  | (_, d) => uptoBulk d + 1
 end
def uptoSmall : (H : Type) → List (DataW H) → Bool := fun _ ds => decide (uptoBulkAll ds ≤ 1048576)
def OpenSpec.upto (s : _root_.Go.ChangeSpec) : _root_.Go.OpenSpec := { _root_.Go.OpenSpec.ofChange s with cond := some uptoSmall }

/-- 'refuterlaw35.BisectFind', WHERE WHAT IT READS IS OF BULK AT MOST 1048576: true; the input reads as it did. -/
def bisectFindUptoRow : OpenClaim := { program := "ytljjkdlnkklibaa", sum := "9944a40f3fb8c8b0bce52a121ebe8b5f0c1c1e8df2cd1f44f87948991fce71a7", func := "refuter/refuterlaw35.BisectFind", spec := "bisectFind", unfollowed := true, recurses := true, apart := false, narrowed := true }
def BisectFindUptoSaid : Prop := bisectFindUptoRow.holds Try.pinned (OpenSpec.upto bisectFindSpec)

/-- 'refuterlaw35.BisectFirst', WHERE WHAT IT READS IS OF BULK AT MOST 1048576: true; the input reads as it did. -/
def bisectFirstUptoRow : OpenClaim := { program := "ytljjkdlnkklibaa", sum := "9944a40f3fb8c8b0bce52a121ebe8b5f0c1c1e8df2cd1f44f87948991fce71a7", func := "refuter/refuterlaw35.BisectFirst", spec := "bisectFirst", unfollowed := true, recurses := true, apart := false, narrowed := true }
def BisectFirstUptoSaid : Prop := bisectFirstUptoRow.holds Try.pinned (OpenSpec.upto bisectFirstSpec)

/-- 'refuterlaw35.BisectCheck', WHERE WHAT IT READS IS OF BULK AT MOST 1048576: true; the input reads as it did. -/
def bisectCheckUptoRow : OpenClaim := { program := "ytljjkdlnkklibaa", sum := "9944a40f3fb8c8b0bce52a121ebe8b5f0c1c1e8df2cd1f44f87948991fce71a7", func := "refuter/refuterlaw35.BisectCheck", spec := "bisectCheck", unfollowed := true, recurses := true, apart := false, narrowed := true }
def BisectCheckUptoSaid : Prop := bisectCheckUptoRow.holds Try.pinned (OpenSpec.upto bisectCheckSpec)

/-- 'refuterlaw35.BisectEdit', WHERE WHAT IT READS IS OF BULK AT MOST 1048576: true; the input reads as it did. -/
def bisectEditUptoRow : OpenClaim := { program := "ytljjkdlnkklibaa", sum := "9944a40f3fb8c8b0bce52a121ebe8b5f0c1c1e8df2cd1f44f87948991fce71a7", func := "refuter/refuterlaw35.BisectEdit", spec := "bisectEdit", unfollowed := true, recurses := true, apart := false, narrowed := true }
def BisectEditUptoSaid : Prop := bisectEditUptoRow.holds Try.pinned (OpenSpec.upto bisectEditSpec)

end Rows
end Go.Proofs.Ytljjkdlnkklibaa
