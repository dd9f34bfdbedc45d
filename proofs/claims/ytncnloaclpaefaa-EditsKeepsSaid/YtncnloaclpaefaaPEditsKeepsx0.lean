-- PRINTED BY print.sh 35421559b90ae4d0a3588c463048766b98c2df88dd9212a6774a882060cdf62d: not written by this session
import Derived.Test.YtncnloaclpaefaaProg
import Derived.Below
import Derived.Deep.Draws
import Derived.Deep.AppendLies
import Derived.Maps.AppendAt
import Derived.OwnWalk
import Derived.Laws.BytesArg
import Derived.Laws.MakeOwn
import Derived.Laws.OwnMore
import Derived.Deep.OwnRows
import Derived.Tactics
import Derived.Lib.ConvBytes
import Derived.Laws.Slices
import Derived.WalkKit
import Derived.KernelRfl
import Derived.RowKit3
import Derived.Deep.LoopGhost
import Derived.Deep.QuietTactic
import Derived.BigQuiet
import Derived.WideLaws
import Derived.Deep.DeepCutAuto
import Derived.Deep.CutBlock
import Derived.Deep.RegionHeld3
import Derived.Laws.Rows
import Derived.Lib.AppendStr
import Derived.ArgAppend
import Derived.Laws.IdiomCopy
import Derived.OrdersHeld
import Derived.Laws.BitsLemmas
import Derived.RowKit
import Derived.Test.YtncnloaclpaefaaWWords
import Derived.Test.YtncnloaclpaefaaWLast
import Derived.Test.YtncnloaclpaefaaWTab
import Derived.Test.YtncnloaclpaefaaWFour
import Derived.Test.YtncnloaclpaefaaWQPut
import Derived.Test.YtncnloaclpaefaaWApart
import Derived.Test.YtncnloaclpaefaaWArr
import Derived.Test.YtncnloaclpaefaaWZeros
import Derived.Test.YtncnloaclpaefaaWFoot
import Derived.Test.YtncnloaclpaefaaWKept
import Derived.Test.YtncnloaclpaefaaWShare
import Derived.Test.YtncnloaclpaefaaWN
import Derived.Test.YtncnloaclpaefaaWFootNe
import Derived.Test.YtncnloaclpaefaaWAt
import Derived.Test.YtncnloaclpaefaaWEqStruct
import Derived.Test.YtncnloaclpaefaaWRepsOne
import Derived.Test.YtncnloaclpaefaaWInv
import Derived.Test.YtncnloaclpaefaaWInvWords
import Derived.Test.YtncnloaclpaefaaWGuard
import Derived.Test.YtncnloaclpaefaaWNEv
import Derived.Test.YtncnloaclpaefaaWMore
namespace Go.Proofs.Ytncnloaclpaefaa.PEditsKeeps
open Go.RowKit Go.Proofs.YtncnloaclpaefaaW.PrintWords Go.Proofs.YtncnloaclpaefaaW.PrintLast Go.Proofs.YtncnloaclpaefaaW.PrintMore
attribute [local go_sem] max2_int min2_int max_two min_two max_three min_three max_four min_four   -- for this text's walks alone
set_option linter.unusedVariables false
set_option linter.unusedSimpArgs false



def errW : Option Int → Value
  | none => .nilIface
  | some c => .iface 0 (.int .i64 c)
theorem errW_none : errW none = .nilIface := rfl
theorem errW_some (c : Int) : errW (some c) = .iface 0 (.int .i64 c) := rfl

-- the values' own types

end Go.Proofs.Ytncnloaclpaefaa.PEditsKeeps
