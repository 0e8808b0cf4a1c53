/- What comes first of two things that are let out: the reference's and the program's OutLess are one plain function. -/
import Derived.Test.YtbgibmngijomfaaOutOrderOrdBase
set_option linter.unusedVariables false
set_option linter.unusedSimpArgs false
namespace Go.Proofs.Ytbgibmngijomfaa.XOutOrder
open Go.RowKit Go.Proofs.YtbgibmngijomfaaW.PrintWords Go.Proofs.YtbgibmngijomfaaW.PrintLast Go.Proofs.YtbgibmngijomfaaE

theorem specOutLess (a b c d e a' b' c' d' e' : Int) : spec_OutLess.f a b c d e a' b' c' d' e' = some (lexM [a, b, c, d, e] [a', b', c', d', e']) := by
  unfold spec_OutLess.f
  simp only [lexM]
  by_cases h0 : a = a'
  · rw [if_pos h0]
    by_cases h1 : b = b'
    · rw [if_pos h1]
      by_cases h2 : c = c'
      · rw [if_pos h2]
        by_cases h3 : d = d'
        · rw [if_pos h3]; simp [h0, h1, h2, h3]
        · rw [if_neg h3]; simp [h0, h1, h2, h3]
      · rw [if_neg h2]; simp [h0, h1, h2]
    · rw [if_neg h1]; simp [h0, h1]
  · rw [if_neg h0]; simp [h0]
theorem implOutLess_ev (a b c d e a' b' c' d' e' : Int) : Ev (fun k => impl_OutLess.f k a b c d e a' b' c' d' e') (lexM [a, b, c, d, e] [a', b', c', d', e']) := by
  unfold impl_OutLess.f
  exact Ev.bind (compare_ev _ _ (by simp)) (ev_fun (Ev.now _) (cmp_lex _ _))

end Go.Proofs.Ytbgibmngijomfaa.XOutOrder
