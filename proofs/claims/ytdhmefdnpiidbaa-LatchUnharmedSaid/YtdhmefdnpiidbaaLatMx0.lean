/- For each Go function named below: a Lean function with the same answers, and the proof that the call answers so wherever that function does; written by a program of this session (myprint.py) out of the translation. -/
import Derived.Test.YtdhmefdnpiidbaaProg
import Derived.Below
import Derived.Deep.Draws
import Derived.Deep.AppendLies
import Derived.Maps.AppendAt
import Derived.OwnWalk
import Derived.Laws.BytesArg
import Derived.Laws.MakeOwn
import Derived.Laws.OwnMore
import Derived.Deep.OwnRows
import Derived.Tactics
import Derived.Lib.ConvBytes
import Derived.Laws.Slices
import Derived.WalkKit
import Derived.KernelRfl
import Derived.RowKit3
import Derived.Deep.LoopGhost
import Derived.Deep.QuietTactic
import Derived.BigQuiet
import Derived.WideLaws
import Derived.Deep.DeepCutAuto
import Derived.Deep.CutBlock
import Derived.Deep.RegionHeld3
import Derived.Laws.Rows
import Derived.Lib.AppendStr
import Derived.ArgAppend
import Derived.Laws.IdiomCopy
import Derived.OrdersHeld
import Derived.Laws.BitsLemmas
import Derived.RowKit
import Derived.Test.YtdhmefdnpiidbaaBasex1
import Derived.Test.YtdhmefdnpiidbaaWWords
import Derived.Test.YtdhmefdnpiidbaaWLast
import Derived.Test.YtdhmefdnpiidbaaWTab
import Derived.Test.YtdhmefdnpiidbaaWFour
import Derived.Test.YtdhmefdnpiidbaaWQPut
import Derived.Test.YtdhmefdnpiidbaaWApart
import Derived.Test.YtdhmefdnpiidbaaWArr
import Derived.Test.YtdhmefdnpiidbaaWZeros
import Derived.Test.YtdhmefdnpiidbaaWFoot
import Derived.Test.YtdhmefdnpiidbaaWKept
import Derived.Test.YtdhmefdnpiidbaaWShare
import Derived.Test.YtdhmefdnpiidbaaWN
import Derived.Test.YtdhmefdnpiidbaaWFootNe
import Derived.Test.YtdhmefdnpiidbaaWAt
import Derived.Test.YtdhmefdnpiidbaaWEqStruct
import Derived.Test.YtdhmefdnpiidbaaWRepsOne
import Derived.Test.YtdhmefdnpiidbaaWInv
import Derived.Test.YtdhmefdnpiidbaaWInvWords
import Derived.Test.YtdhmefdnpiidbaaWGuard
import Derived.Test.YtdhmefdnpiidbaaWNEv
import Derived.Test.YtdhmefdnpiidbaaWMore
namespace Go.Proofs.Ytdhmefdnpiidbaa.LatM
open Go.RowKit Go.Proofs.YtdhmefdnpiidbaaW.PrintWords Go.Proofs.YtdhmefdnpiidbaaW.PrintLast Go.Proofs.YtdhmefdnpiidbaaW.PrintMore Go.Proofs.Ytdhmefdnpiidbaa.Base
attribute [local go_sem] max2_int min2_int max_two min_two max_three min_three max_four min_four   -- for this text's walks alone
set_option linter.unusedVariables false
set_option linter.unusedSimpArgs false



def errW : Option Int → Value
  | none => .nilIface
  | some c => .iface 0 (.int .i64 c)
theorem errW_none : errW none = .nilIface := rfl
theorem errW_some (c : Int) : errW (some c) = .iface 0 (.int .i64 c) := rfl

-- the values' own types

end Go.Proofs.Ytdhmefdnpiidbaa.LatM
