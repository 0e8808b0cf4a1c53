/- Proved: at every lane the program's LaneOk answers as the reference's. No condition. -/
import Derived.Test.YtjgpacfhokpfdaaLanePlFnExactLaneOk
set_option linter.unusedVariables false
namespace Go.Proofs.Ytjgpacfhokpfdaa.Pure
open Go Go.Sx Go.Pl Go.Proofs.Ytjgpacfhokpfdaa.SFnExactLaneOk

theorem FnExactLaneOk : Goal := by
  intro x hg
  refine Ev.ex (r := true) ?_
  refine Ev.step (fun k => laws_FnExactLaneOk_eq k x) ?_
  have hlong : x.2.2.length ≤ maxLen ∧ ∀ y ∈ x.2.2, LongPa y := by
    obtain ⟨_, _, h1, h2⟩ := hg
    exact ⟨h1, fun y hy => ⟨(h2 y hy).2.2.1.1, (h2 y hy).2.2.2.1⟩⟩
  obtain ⟨r, hr, hr1, hr2⟩ := szLane x 1048576 (by decide) (by decide) hlong.1 hlong.2
  refine Ev.bind hr (Ev.cond (fun _ => Ev.now _) fun h0 => ?_)
  have h0 : ¬ r < 0 := by simpa using h0
  have hs := hr2 (by omega)
  have ht := toLane x hs
  refine Ev.bind ht (Ev.bind (specLane_ev x hs) (Ev.bind ht (Ev.bind (implLane_ev x hs) ?_)))
  refine Ev.cond (fun h => ?_) fun _ => Ev.bind ht (Ev.bind (eqLane x x hs) ?_)
  · cases hb : laneM x <;> rw [hb] at h <;> cases h
  simp only [decide_true, Bool.not_true, cond_false]
  exact Ev.now _

end Go.Proofs.Ytjgpacfhokpfdaa.Pure
