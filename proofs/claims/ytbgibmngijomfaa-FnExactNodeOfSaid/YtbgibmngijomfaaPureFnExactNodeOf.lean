/- Proved: at every whole number the program's NodeOf answers as the reference's. No condition. -/
import Derived.Test.YtbgibmngijomfaaPFnExactNodeOfx1
namespace Go.Proofs.Ytbgibmngijomfaa.Pure
open Go.RowKit Go.Proofs.Ytbgibmngijomfaa.PFnExactNodeOf Go.Proofs.YtbgibmngijomfaaW.PrintWords Go.Proofs.YtbgibmngijomfaaW.PrintLast

theorem FnExactNodeOf : laws_FnExactNodeOf.Pure := by
  intro a _
  unfold laws_FnExactNodeOf.f spec_NodeOf.f impl_NodeOf.f spec_l1Proc.f impl_isProc.f spec_l6In.f impl_within.f
  by_cases h0 : a ≥ 0
  · by_cases h3 : a ≤ 3 <;> simp [h0, h3]
  · simp [h0]

end Go.Proofs.Ytbgibmngijomfaa.Pure
