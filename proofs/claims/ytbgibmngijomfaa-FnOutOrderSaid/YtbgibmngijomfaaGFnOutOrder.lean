/- The statement FnOutOrder over numbers and lists alone: what is to be proved of the printed functions. No condition of ours. -/
import Derived.Test.YtbgibmngijomfaaXOutOrderx3
namespace Go.Proofs.Ytbgibmngijomfaa.XOutOrder
open Go.RowKit Go.Proofs.YtbgibmngijomfaaW.PrintWords

def laws_FnOutOrder.Goal : Prop := ∀ (l0 : List (Int)), (l0.length ≤ maxLen ∧ ∀ z0_ ∈ l0, (Lit.int .u8 z0_).wf = true) → ∃ k, laws_FnOutOrder.f k l0 = some true

end Go.Proofs.Ytbgibmngijomfaa.XOutOrder
