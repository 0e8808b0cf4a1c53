/- The statement FnAppFirst over numbers and lists alone: what is to be proved of the printed functions. No condition of ours. -/
import Derived.Test.YtbgibmngijomfaaPFnAppFirstx2
namespace Go.Proofs.Ytbgibmngijomfaa.PFnAppFirst
open Go.RowKit Go.Proofs.YtbgibmngijomfaaW.PrintWords

def laws_FnAppFirst.Goal : Prop := ∀ (l0 : List (Int)), (l0.length ≤ maxLen ∧ ∀ z0_ ∈ l0, (Lit.int .u8 z0_).wf = true) → ∃ k, laws_FnAppFirst.f k l0 = some true

end Go.Proofs.Ytbgibmngijomfaa.PFnAppFirst
