/- Proved: at every two events the program's EventLess answers as the reference's. No condition. -/
import Derived.Test.YtbgibmngijomfaaGFnExactEventLess
import Derived.Test.YtbgibmngijomfaaEventLessOrdEvent
namespace Go.Proofs.Ytbgibmngijomfaa.Pure
open Go.RowKit Go.Proofs.YtbgibmngijomfaaW.PrintWords Go.Proofs.YtbgibmngijomfaaE Go.Proofs.Ytbgibmngijomfaa.XEventLess

theorem FnExactEventLess : laws_FnExactEventLess.Goal := by
  intro a b c d e f g a' b' c' d' e' f' g' _ _ _ _ _ _ _ _ _ _ _ _ _ _
  refine Ev.rounds (g := fun k => laws_FnExactEventLess.f k a b c d e f g a' b' c' d' e' f' g') ?_
  unfold laws_FnExactEventLess.f laws_toEvent.f
  simp only [Option.bind_some, specEventLess]
  exact Ev.bind (implEventLess_ev a b c d e f g a' b' c' d' e' f' g') (ev_ite_neg (by simp) (Ev.now _))

end Go.Proofs.Ytbgibmngijomfaa.Pure
