/- Proved: the program's constants are the reference's constants: FnExactConstants answers true. No condition. -/
import Derived.Test.YtbgibmngijomfaaPFnExactConstantsx1
namespace Go.Proofs.Ytbgibmngijomfaa.Pure
open Go.RowKit Go.Proofs.Ytbgibmngijomfaa.PFnExactConstants Go.Proofs.YtbgibmngijomfaaW.PrintWords Go.Proofs.YtbgibmngijomfaaW.PrintLast

theorem FnExactConstants : laws_FnExactConstants.Pure := rfl

end Go.Proofs.Ytbgibmngijomfaa.Pure
