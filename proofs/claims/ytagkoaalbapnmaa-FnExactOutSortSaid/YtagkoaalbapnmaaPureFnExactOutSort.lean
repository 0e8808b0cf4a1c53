/- Proved: the program's OutSort is the reference's at every list; it writes into no argument, and its answer owns its memory. No condition of ours. -/
import Derived.Test.YtagkoaalbapnmaaSortPlFnExactOutSort
import Derived.Test.YtagkoaalbapnmaaMarkPlFnExactOutSort
import Derived.Test.YtagkoaalbapnmaaLanePlFnExactOutSort
set_option linter.unusedVariables false
namespace Go.Proofs.Ytagkoaalbapnmaa.Pure
open Go Go.Sx Go.Pl Go.Proofs.Ytagkoaalbapnmaa.SFnExactOutSort
theorem goal (a : List Ou5) (ha : a.length ≤ maxLen) : ∃ k, laws_FnExactOutSort k a = some true := by
  obtain ⟨r, hr, hr1, hr2⟩ := szOutS a 1048576 (by decide) (by decide) ha
  refine Ev.ex (r := true) ?_
  refine Ev.step (fun k => laws_FnExactOutSort_eq k a) ?_
  refine Ev.bind hr ?_
  by_cases hn : r < 0
  · rw [decide_eq_true hn]; exact Ev.now _
  have hl : a.length ≤ 1048576 := hr2 (by omega)
  clear ha
  obtain ⟨s, h1, h2, h3, h4⟩ := outSorts a hl
  have hs : s.length ≤ 1048576 := by rw [h3.length_eq]; exact hl
  have e0 : ∀ x : List Ou5, x.length ≤ 1048576 → Ev (fun k => laws_eqOutS k x x) true := fun x hx => (eqOutS x x hx).to (by simp)
  simp only [decide_eq_false hn, cond_false]
  refine Ev.bind (toOutS a hl) (Ev.bind h1 (Ev.bind (toOutS a hl) (Ev.bind h2 (Ev.bind (e0 s hs) ?_))))
  simp only [Bool.not_true, cond_false]
  refine Ev.bind (toOutS a hl) (Ev.bind (e0 a hl) ?_)
  simp only [Bool.not_true, cond_false]
  refine Ev.bind (markO 1 (by omega) (by omega) a hl) ?_
  simp only [decide_eq_false (show ¬ 1 + 5 * (a.length : Int) < 0 by omega), cond_false]
  refine Ev.bind (e0 s hs) ?_
  simp only [Bool.not_true, cond_false]
  refine Ev.bind (markO 1 (by omega) (by omega) s hs) (Ev.bind (heldO 1 (by omega) (by omega) s.length hs) ?_)
  simp only [decide_eq_false (show ¬ 1 + 5 * (s.length : Int) < 0 by omega), cond_false, bne_self_eq_false]
  refine Ev.bind (toOutS a hl) (Ev.bind h2 (Ev.bind (e0 s hs) ?_))
  simp only [Bool.not_true, cond_false]
  refine Ev.bind (heldO 1 (by omega) (by omega) s.length hs) ?_
  simp only [decide_eq_false (show ¬ 1 + 5 * (s.length : Int) < 0 by omega), cond_false, bne_self_eq_false]
  exact Ev.now _
theorem FnExactOutSort : Goal := fun a ha => goal a ha.1
end Go.Proofs.Ytagkoaalbapnmaa.Pure
