/- Written by a program of this session (wip/myprint.py). Lean checks it. -/
import Derived.Test.YthlgdgmpmjfiiaaProg
import Derived.Below
import Derived.Deep.Draws
import Derived.Deep.AppendLies
import Derived.Maps.AppendAt
import Derived.OwnWalk
import Derived.Laws.BytesArg
import Derived.Laws.MakeOwn
import Derived.Laws.OwnMore
import Derived.Deep.OwnRows
import Derived.Tactics
import Derived.Lib.ConvBytes
import Derived.Laws.Slices
import Derived.WalkKit
import Derived.KernelRfl
import Derived.RowKit3
import Derived.Deep.LoopGhost
import Derived.Deep.QuietTactic
import Derived.BigQuiet
import Derived.WideLaws
import Derived.Deep.DeepCutAuto
import Derived.Deep.CutBlock
import Derived.Deep.RegionHeld3
import Derived.Laws.Rows
import Derived.Lib.AppendStr
import Derived.ArgAppend
import Derived.Laws.IdiomCopy
import Derived.OrdersHeld
import Derived.Laws.BitsLemmas
import Derived.RowKit
import Derived.Test.YthlgdgmpmjfiiaaWWords
import Derived.Test.YthlgdgmpmjfiiaaWLast
import Derived.Test.YthlgdgmpmjfiiaaWTab
import Derived.Test.YthlgdgmpmjfiiaaWFour
import Derived.Test.YthlgdgmpmjfiiaaWQPut
import Derived.Test.YthlgdgmpmjfiiaaWApart
import Derived.Test.YthlgdgmpmjfiiaaWArr
import Derived.Test.YthlgdgmpmjfiiaaWZeros
import Derived.Test.YthlgdgmpmjfiiaaWFoot
import Derived.Test.YthlgdgmpmjfiiaaWKept
import Derived.Test.YthlgdgmpmjfiiaaWShare
import Derived.Test.YthlgdgmpmjfiiaaWN
import Derived.Test.YthlgdgmpmjfiiaaWFootNe
import Derived.Test.YthlgdgmpmjfiiaaWAt
import Derived.Test.YthlgdgmpmjfiiaaWEqStruct
import Derived.Test.YthlgdgmpmjfiiaaWRepsOne
import Derived.Test.YthlgdgmpmjfiiaaWInv
import Derived.Test.YthlgdgmpmjfiiaaWInvWords
import Derived.Test.YthlgdgmpmjfiiaaWGuard
import Derived.Test.YthlgdgmpmjfiiaaWNEv
import Derived.Test.YthlgdgmpmjfiiaaWMore
namespace Go.Proofs.Ythlgdgmpmjfiiaa.QMemoryCodesMatchSpec
open Go.RowKit Go.Proofs.YthlgdgmpmjfiiaaW.PrintWords Go.Proofs.YthlgdgmpmjfiiaaW.PrintLast Go.Proofs.YthlgdgmpmjfiiaaW.PrintMore
attribute [local go_sem] max2_int min2_int max_two min_two max_three min_three max_four min_four   -- for this text's walks alone
set_option linter.unusedVariables false
set_option linter.unusedSimpArgs false



def errW : Option Int → Value
  | none => .nilIface
  | some c => .iface 0 (.int .i64 c)
theorem errW_none : errW none = .nilIface := rfl
theorem errW_some (c : Int) : errW (some c) = .iface 0 (.int .i64 c) := rfl

-- the values' own types

end Go.Proofs.Ythlgdgmpmjfiiaa.QMemoryCodesMatchSpec
