/- What comes first of two events: the reference's and the program's EventLess are one plain function. -/
import Derived.Test.YtbgibmngijomfaaEventLessOrdBase
set_option linter.unusedVariables false
set_option linter.unusedSimpArgs false
namespace Go.Proofs.Ytbgibmngijomfaa.XEventLess
open Go.RowKit Go.Proofs.YtbgibmngijomfaaW.PrintWords Go.Proofs.YtbgibmngijomfaaW.PrintLast Go.Proofs.YtbgibmngijomfaaE

theorem specEventLess (a b c d e f g a' b' c' d' e' f' g' : Int) : spec_EventLess.f a b c d e f g a' b' c' d' e' f' g' = some (lexM [a, b, c, d, e, f, g] [a', b', c', d', e', f', g']) := by
  unfold spec_EventLess.f
  simp only [lexM]
  by_cases h0 : a = a'
  case neg => rw [if_neg h0]; simp [h0]
  rw [if_pos h0]
  by_cases h1 : b = b'
  case neg => rw [if_neg h1]; simp [h0, h1]
  rw [if_pos h1]
  by_cases h2 : c = c'
  case neg => rw [if_neg h2]; simp [h0, h1, h2]
  rw [if_pos h2]
  by_cases h3 : d = d'
  case neg => rw [if_neg h3]; simp [h0, h1, h2, h3]
  rw [if_pos h3]
  by_cases h4 : e = e'
  case neg => rw [if_neg h4]; simp [h0, h1, h2, h3, h4]
  rw [if_pos h4]
  by_cases h5 : f = f'
  case neg => rw [if_neg h5]; simp [h0, h1, h2, h3, h4, h5]
  rw [if_pos h5]
  simp [h0, h1, h2, h3, h4, h5]
theorem implEventLess_ev (a b c d e f g a' b' c' d' e' f' g' : Int) : Ev (fun k => impl_EventLess.f k a b c d e f g a' b' c' d' e' f' g') (lexM [a, b, c, d, e, f, g] [a', b', c', d', e', f', g']) := by
  unfold impl_EventLess.f
  exact Ev.bind (compare_ev _ _ (by simp)) (ev_fun (Ev.now _) (cmp_lex _ _))

end Go.Proofs.Ytbgibmngijomfaa.XEventLess
