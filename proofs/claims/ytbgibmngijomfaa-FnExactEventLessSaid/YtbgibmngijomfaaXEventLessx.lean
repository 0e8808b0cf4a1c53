/- Functions of the program as plain functions of numbers and lists, each with its contract: the machine's call does what the plain function says. No condition of ours. -/
import Derived.Test.YtbgibmngijomfaaXEventLessx0
import Derived.Test.YtbgibmngijomfaaXEventLessx1
import Derived.Test.YtbgibmngijomfaaXEventLessx2
namespace Go.Proofs.Ytbgibmngijomfaa.XEventLess
open Go.RowKit Go.Proofs.YtbgibmngijomfaaW.PrintWords Go.Proofs.YtbgibmngijomfaaW.PrintLast Go.Proofs.YtbgibmngijomfaaW.PrintMore
attribute [local go_sem] max2_int min2_int max_two min_two max_three min_three max_four min_four   -- for this text's walks alone
set_option linter.unusedVariables false
set_option linter.unusedSimpArgs false

end Go.Proofs.Ytbgibmngijomfaa.XEventLess
