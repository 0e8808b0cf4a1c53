/- Proved: at every node the program's NodeOk answers as the reference's. No condition. -/
import Derived.Test.YtkggdegpdmnjoaaNodeEqPlFnExactNodeOk
import Derived.Test.YtkggdegpdmnjoaaNodeSzPlFnExactNodeOk
set_option linter.unusedVariables false
namespace Go.Proofs.Ytkggdegpdmnjoaa.Pure
open Go Go.Sx Go.Pl Go.Proofs.Ytkggdegpdmnjoaa.SFnExactNodeOk

theorem FnExactNodeOk : Goal := by
  intro n hg
  refine Ev.ex (r := true) ?_
  refine Ev.step (fun k => laws_FnExactNodeOk_eq k n) ?_
  obtain ⟨r, hr, hr1, hr2⟩ := szNode n 1048576 (by decide) (by decide) (goodNd n hg)
  refine Ev.bind hr (Ev.cond (fun _ => Ev.now _) fun h0 => ?_)
  have h0 : ¬ r < 0 := by simpa using h0
  have hs := hr2 (by omega)
  have ht := toNode n hs
  have hb : ∀ b : Bool, (!b == b) = false := by decide
  refine Ev.bind ht (Ev.bind (specNd n hs) (Ev.bind ht (Ev.bind (implNd n hs) ?_)))
  simp only [hb, cond_false]
  exact Ev.bind ht (Ev.bind (eqNode n hs) (Ev.now _))
end Go.Proofs.Ytkggdegpdmnjoaa.Pure
