/- Lines written by a program of this session out of the kit's print: the law's functions, with the contracts of lines.Count, lines.Of and lines.At taken from OwnLines. -/
import Derived.Test.YtcnelmhaggpbjaaPLinesStepsx0
import Derived.Test.YtcnelmhaggpbjaaPLinesStepsx1
import Derived.Test.YtcnelmhaggpbjaaPLinesStepsx2
namespace Go.Proofs.Ytcnelmhaggpbjaa.PLinesSteps
open Go.RowKit Go.Proofs.YtcnelmhaggpbjaaW.PrintWords Go.Proofs.YtcnelmhaggpbjaaW.PrintLast Go.Proofs.YtcnelmhaggpbjaaW.PrintMore
attribute [local go_sem] max2_int min2_int max_two min_two max_three min_three max_four min_four   -- for this text's walks alone
set_option linter.unusedVariables false
set_option linter.unusedSimpArgs false

end Go.Proofs.Ytcnelmhaggpbjaa.PLinesSteps
