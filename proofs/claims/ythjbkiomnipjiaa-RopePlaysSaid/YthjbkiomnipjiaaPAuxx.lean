/- Lines written by a program of this session out of the kit's print: functions that the rope's laws use. -/
import Derived.Test.YthjbkiomnipjiaaPAuxx0
import Derived.Test.YthjbkiomnipjiaaPAuxx1
import Derived.Test.YthjbkiomnipjiaaPAuxx2
import Derived.Test.YthjbkiomnipjiaaPAuxx3
namespace Go.Proofs.Ythjbkiomnipjiaa.PAux
open Go.RowKit Go.Proofs.YthjbkiomnipjiaaW.PrintWords Go.Proofs.YthjbkiomnipjiaaW.PrintLast Go.Proofs.YthjbkiomnipjiaaW.PrintMore
attribute [local go_sem] max2_int min2_int max_two min_two max_three min_three max_four min_four   -- for this text's walks alone
set_option linter.unusedVariables false
set_option linter.unusedSimpArgs false

end Go.Proofs.Ythjbkiomnipjiaa.PAux
