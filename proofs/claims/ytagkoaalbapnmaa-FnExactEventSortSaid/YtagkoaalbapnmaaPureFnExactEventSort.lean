/- Proved: the program's EventSort is the reference's at every list of events; it writes into no argument, and its answer owns its memory. No condition of ours. -/
import Derived.Test.YtagkoaalbapnmaaEventPlFnExactEventSort
import Derived.Test.YtagkoaalbapnmaaMarkEPlFnExactEventSort
import Derived.Test.YtagkoaalbapnmaaLanePlFnExactEventSort
set_option linter.unusedVariables false
namespace Go.Proofs.Ytagkoaalbapnmaa.Pure
open Go Go.Sx Go.Pl Go.Proofs.Ytagkoaalbapnmaa.SFnExactEventSort
theorem goal (a : List Ev7) (ha : a.length ≤ maxLen) (hw : ∀ x ∈ a, WfE x) : ∃ k, laws_FnExactEventSort k a = some true := by
  obtain ⟨r, hr, hr1, hr2⟩ := szEventS a 1048576 (by decide) (by decide) ha
  refine Ev.ex (r := true) ?_
  refine Ev.step (fun k => laws_FnExactEventSort_eq k a) ?_
  refine Ev.bind hr ?_
  by_cases hn : r < 0
  · rw [decide_eq_true hn]; exact Ev.now _
  have hl : a.length ≤ 1048576 := hr2 (by omega)
  clear ha
  obtain ⟨s, h1, h2, h3, h4, h5⟩ := eventSorts a hl hw
  have hs : s.length ≤ 1048576 := by omega
  have e0 : ∀ x : List Ev7, x.length ≤ 1048576 → Ev (fun k => laws_eqEventS k x x) true := fun x hx => (eqEventS x x hx).to (by simp)
  simp only [decide_eq_false hn, cond_false]
  refine Ev.bind (toEventS a hl) (Ev.bind h1 (Ev.bind (toEventS a hl) (Ev.bind h2 (Ev.bind (e0 s hs) ?_))))
  simp only [Bool.not_true, cond_false]
  refine Ev.bind (toEventS a hl) (Ev.bind (e0 a hl) ?_)
  simp only [Bool.not_true, cond_false]
  refine Ev.bind (markES 1 (by omega) (by omega) a hl) ?_
  simp only [decide_eq_false (show ¬ 1 + 7 * (a.length : Int) < 0 by omega), cond_false]
  refine Ev.bind (e0 s hs) ?_
  simp only [Bool.not_true, cond_false]
  refine Ev.bind (markES 1 (by omega) (by omega) s hs) (Ev.bind (heldES 1 (by omega) (by omega) s.length hs) ?_)
  simp only [decide_eq_false (show ¬ 1 + 7 * (s.length : Int) < 0 by omega), cond_false, bne_self_eq_false]
  refine Ev.bind (toEventS a hl) (Ev.bind h2 (Ev.bind (e0 s hs) ?_))
  simp only [Bool.not_true, cond_false]
  refine Ev.bind (heldES 1 (by omega) (by omega) s.length hs) ?_
  simp only [decide_eq_false (show ¬ 1 + 7 * (s.length : Int) < 0 by omega), cond_false, bne_self_eq_false]
  exact Ev.now _
theorem FnExactEventSort : Goal := fun a ha => goal a ha.1 fun x hx => by
  obtain ⟨h1, h2, h3, h4, h5, h6, h7⟩ := ha.2 x hx
  exact ⟨h1, h2, h3, h4, h5, h6, h7⟩
end Go.Proofs.Ytagkoaalbapnmaa.Pure
