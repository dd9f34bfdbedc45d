/- Lines written by a program of this session out of the kit's print: the law's functions, with the contracts of lines.Count, lines.Of and lines.At taken from OwnLines. -/
import Derived.Test.YtcnelmhaggpbjaaProg
import Derived.Below
import Derived.Deep.Draws
import Derived.Deep.AppendLies
import Derived.Maps.AppendAt
import Derived.OwnWalk
import Derived.Laws.BytesArg
import Derived.Laws.MakeOwn
import Derived.Laws.OwnMore
import Derived.Deep.OwnRows
import Derived.Tactics
import Derived.Lib.ConvBytes
import Derived.Laws.Slices
import Derived.WalkKit
import Derived.KernelRfl
import Derived.RowKit3
import Derived.Deep.LoopGhost
import Derived.Deep.QuietTactic
import Derived.BigQuiet
import Derived.WideLaws
import Derived.Deep.DeepCutAuto
import Derived.Deep.CutBlock
import Derived.Deep.RegionHeld3
import Derived.Laws.Rows
import Derived.Lib.AppendStr
import Derived.ArgAppend
import Derived.Laws.IdiomCopy
import Derived.OrdersHeld
import Derived.Laws.BitsLemmas
import Derived.RowKit
import Derived.Test.YtcnelmhaggpbjaaOwnLines
import Derived.Test.YtcnelmhaggpbjaaWWords
import Derived.Test.YtcnelmhaggpbjaaWLast
import Derived.Test.YtcnelmhaggpbjaaWTab
import Derived.Test.YtcnelmhaggpbjaaWFour
import Derived.Test.YtcnelmhaggpbjaaWQPut
import Derived.Test.YtcnelmhaggpbjaaWApart
import Derived.Test.YtcnelmhaggpbjaaWArr
import Derived.Test.YtcnelmhaggpbjaaWZeros
import Derived.Test.YtcnelmhaggpbjaaWFoot
import Derived.Test.YtcnelmhaggpbjaaWKept
import Derived.Test.YtcnelmhaggpbjaaWShare
import Derived.Test.YtcnelmhaggpbjaaWN
import Derived.Test.YtcnelmhaggpbjaaWFootNe
import Derived.Test.YtcnelmhaggpbjaaWAt
import Derived.Test.YtcnelmhaggpbjaaWEqStruct
import Derived.Test.YtcnelmhaggpbjaaWRepsOne
import Derived.Test.YtcnelmhaggpbjaaWInv
import Derived.Test.YtcnelmhaggpbjaaWInvWords
import Derived.Test.YtcnelmhaggpbjaaWGuard
import Derived.Test.YtcnelmhaggpbjaaWNEv
import Derived.Test.YtcnelmhaggpbjaaWMore
namespace Go.Proofs.Ytcnelmhaggpbjaa.PLinesSteps
open Go.RowKit Go.Proofs.YtcnelmhaggpbjaaW.PrintWords Go.Proofs.YtcnelmhaggpbjaaW.PrintLast Go.Proofs.YtcnelmhaggpbjaaW.PrintMore
attribute [local go_sem] max2_int min2_int max_two min_two max_three min_three max_four min_four   -- for this text's walks alone
set_option linter.unusedVariables false
set_option linter.unusedSimpArgs false



def errW : Option Int → Value
  | none => .nilIface
  | some c => .iface 0 (.int .i64 c)
theorem errW_none : errW none = .nilIface := rfl
theorem errW_some (c : Int) : errW (some c) = .iface 0 (.int .i64 c) := rfl

theorem info3 : (Try.prog.info? 3).map (fun i => (i.zero, i.size, i.bytes)) = some (some (.int .i64 0), 1, 8) := by kernel_rfl
-- the values' own types

end Go.Proofs.Ytcnelmhaggpbjaa.PLinesSteps
