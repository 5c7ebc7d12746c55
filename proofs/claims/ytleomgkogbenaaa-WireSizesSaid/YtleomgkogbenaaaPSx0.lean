/- Written by a program of this session (pw.py, over the kit's printer): contracts, with their walks, of the Go functions that a law reaches; a text named ..Law.. proves the given statement of that law, with no condition of its own. -/
import Derived.Test.YtleomgkogbenaaaProg
import Derived.Below
import Derived.Deep.Draws
import Derived.Deep.AppendLies
import Derived.Maps.AppendAt
import Derived.OwnWalk
import Derived.Laws.BytesArg
import Derived.Laws.MakeOwn
import Derived.Laws.OwnMore
import Derived.Deep.OwnRows
import Derived.Tactics
import Derived.Lib.ConvBytes
import Derived.Laws.Slices
import Derived.WalkKit
import Derived.KernelRfl
import Derived.RowKit3
import Derived.Deep.LoopGhost
import Derived.Deep.QuietTactic
import Derived.BigQuiet
import Derived.WideLaws
import Derived.Deep.DeepCutAuto
import Derived.Deep.CutBlock
import Derived.Deep.RegionHeld3
import Derived.Laws.Rows
import Derived.Lib.AppendStr
import Derived.ArgAppend
import Derived.Laws.IdiomCopy
import Derived.OrdersHeld
import Derived.Laws.BitsLemmas
import Derived.RowKit
import Derived.Test.YtleomgkogbenaaaHashBytes
import Derived.Test.YtleomgkogbenaaaWireRd4
import Derived.OpenShut
import Derived.Deep.RegionWith
import Derived.Test.YtleomgkogbenaaaPw
import Derived.Test.YtleomgkogbenaaaWWords
import Derived.Test.YtleomgkogbenaaaWLast
import Derived.Test.YtleomgkogbenaaaWTab
import Derived.Test.YtleomgkogbenaaaWFour
import Derived.Test.YtleomgkogbenaaaWQPut
import Derived.Test.YtleomgkogbenaaaWApart
import Derived.Test.YtleomgkogbenaaaWArr
import Derived.Test.YtleomgkogbenaaaWZeros
import Derived.Test.YtleomgkogbenaaaWFoot
import Derived.Test.YtleomgkogbenaaaWKept
import Derived.Test.YtleomgkogbenaaaWShare
import Derived.Test.YtleomgkogbenaaaWN
import Derived.Test.YtleomgkogbenaaaWFootNe
import Derived.Test.YtleomgkogbenaaaWAt
import Derived.Test.YtleomgkogbenaaaWEqStruct
import Derived.Test.YtleomgkogbenaaaWRepsOne
import Derived.Test.YtleomgkogbenaaaWInv
import Derived.Test.YtleomgkogbenaaaWInvWords
import Derived.Test.YtleomgkogbenaaaWGuard
import Derived.Test.YtleomgkogbenaaaWNEv
import Derived.Test.YtleomgkogbenaaaWMore
namespace Go.Proofs.Ytleomgkogbenaaa.PS
open Go.Proofs.Ytleomgkogbenaaa.HashPlain
open Go.Proofs.Ytleomgkogbenaaa.WirePlain
open Go.Proofs.Ytleomgkogbenaaa.WireWr
open Go.Proofs.Ytleomgkogbenaaa.WireRd
open Go.Proofs.Ytleomgkogbenaaa.Pw
open Go.RowKit Go.Proofs.YtleomgkogbenaaaW.PrintWords Go.Proofs.YtleomgkogbenaaaW.PrintLast Go.Proofs.YtleomgkogbenaaaW.PrintMore
attribute [local go_sem] max2_int min2_int max_two min_two max_three min_three max_four min_four   -- for this text's walks alone
set_option linter.unusedVariables false
set_option linter.unusedSimpArgs false



def errW : Option Int → Value
  | none => .nilIface
  | some c => .iface 0 (.int .i64 c)
theorem errW_none : errW none = .nilIface := rfl
theorem errW_some (c : Int) : errW (some c) = .iface 0 (.int .i64 c) := rfl

-- the values' own types

end Go.Proofs.Ytleomgkogbenaaa.PS
