/- Proved: at every run the program's SimOk answers as the reference's. No condition. -/
import Derived.Test.YtagkoaalbapnmaaSimPlFnExactSimOk
set_option linter.unusedVariables false
namespace Go.Proofs.Ytagkoaalbapnmaa.Pure
open Go Go.Sx Go.Pl Go.Proofs.Ytagkoaalbapnmaa.SFnExactSimOk

theorem FnExactSimOk : Goal := by
  intro x hg
  refine Ev.ex (r := true) ?_
  refine Ev.step (fun k => laws_FnExactSimOk_eq k x) ?_
  have hlong : LongSi x := ⟨hg.1.1, hg.2.1.1, hg.2.2.1⟩
  obtain ⟨r, hr, hr1, hr2⟩ := szSim x 1048576 (by decide) (by decide) hlong
  refine Ev.bind hr (Ev.cond (fun _ => Ev.now _) fun h0 => ?_)
  have h0 : ¬ r < 0 := by simpa using h0
  have hs := hr2 (by omega)
  have ht := toSim x hs
  refine Ev.bind ht (Ev.bind (specSim x hs) (Ev.bind ht (Ev.bind (implSim x hs) ?_)))
  refine Ev.cond (fun h => ?_) fun _ => Ev.bind ht (Ev.bind (eqSim x x hs) ?_)
  · cases hb : simM x <;> rw [hb] at h <;> cases h
  simp only [decide_true, Bool.not_true, cond_false]
  exact Ev.now _

end Go.Proofs.Ytagkoaalbapnmaa.Pure
