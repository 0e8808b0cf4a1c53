/- Proved: at every two things that are let out the program's OutLess answers as the reference's. No condition. -/
import Derived.Test.YtbgibmngijomfaaGFnExactOutLess
import Derived.Test.YtbgibmngijomfaaOutLessOrdOut
namespace Go.Proofs.Ytbgibmngijomfaa.Pure
open Go.RowKit Go.Proofs.YtbgibmngijomfaaW.PrintWords Go.Proofs.YtbgibmngijomfaaE Go.Proofs.Ytbgibmngijomfaa.XOutLess

theorem FnExactOutLess : laws_FnExactOutLess.Goal := by
  intro a b c d e a' b' c' d' e' _ _ _ _ _ _ _ _ _ _
  refine Ev.rounds (g := fun k => laws_FnExactOutLess.f k a b c d e a' b' c' d' e') ?_
  unfold laws_FnExactOutLess.f laws_toOut.f
  simp only [Option.bind_some, specOutLess]
  exact Ev.bind (implOutLess_ev a b c d e a' b' c' d' e') (ev_ite_neg (by simp) (Ev.now _))

end Go.Proofs.Ytbgibmngijomfaa.Pure
