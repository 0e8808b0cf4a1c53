/- Proved: at every whole number the program's AppFirst answers as the reference's. No condition. -/
import Derived.Test.YtbgibmngijomfaaPFnExactAppFirstx1
namespace Go.Proofs.Ytbgibmngijomfaa.Pure
open Go.RowKit Go.Proofs.Ytbgibmngijomfaa.PFnExactAppFirst Go.Proofs.YtbgibmngijomfaaW.PrintWords Go.Proofs.YtbgibmngijomfaaW.PrintLast

theorem FnExactAppFirst : laws_FnExactAppFirst.Pure := by
  intro a _
  unfold laws_FnExactAppFirst.f spec_AppFirst.f impl_AppFirst.f spec_l1Proc.f impl_isProc.f spec_l6In.f impl_within.f laws_eqEvent.f
  by_cases h0 : a ≥ 0
  · by_cases h3 : a ≤ 3 <;> simp [h0, h3]
  · simp [h0]

end Go.Proofs.Ytbgibmngijomfaa.Pure
