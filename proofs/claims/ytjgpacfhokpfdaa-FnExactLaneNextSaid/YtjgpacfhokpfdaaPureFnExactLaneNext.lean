/- Proved: at every lane and all that has come the program's LaneNext answers as the reference's. No condition. -/
import Derived.Test.YtjgpacfhokpfdaaNextPlFnExactLaneNext
set_option linter.unusedVariables false
namespace Go.Proofs.Ytjgpacfhokpfdaa.Pure
open Go Go.Sx Go.Pl Go.Proofs.Ytjgpacfhokpfdaa.SFnExactLaneNext

theorem FnExactLaneNext : Goal := by
  intro x came hg hg2
  refine Ev.ex (r := true) ?_
  refine Ev.step (fun k => laws_FnExactLaneNext_eq k x came) ?_
  have hlong : x.2.2.length ≤ maxLen ∧ ∀ y ∈ x.2.2, LongPa y := by
    obtain ⟨_, _, h1, h2⟩ := hg
    exact ⟨h1, fun y hy => ⟨(h2 y hy).2.2.1.1, (h2 y hy).2.2.2.1⟩⟩
  obtain ⟨r, hr, hr1, hr2⟩ := szLane x 1048576 (by decide) (by decide) hlong.1 hlong.2
  refine Ev.bind hr (Ev.cond (fun _ => Ev.now _) fun h0 => ?_)
  have h0 : ¬ r < 0 := by simpa using h0
  have hs := hr2 (by omega)
  obtain ⟨r', hr', hr1', hr2'⟩ := szEventS came r (by omega) hr1 hg2.1
  refine Ev.bind hr' (Ev.cond (fun _ => Ev.now _) fun h0' => ?_)
  have h0' : ¬ r' < 0 := by simpa using h0'
  have hc := hr2' (by omega)
  have ht := toLane x hs
  have hte := toEventS came hc
  refine Ev.bind ht (Ev.bind hte (Ev.bind (specNext x came hs hc) (Ev.bind ht (Ev.bind hte (Ev.bind (implNext x came hs hc) (Ev.bind (Ev.of 1 fun m => eqEvent m _ _) ?_))))))
  have hb : ∀ b : Bool, (!b == b) = false := by decide
  simp only [decide_true, Bool.not_true, cond_false, hb]
  refine Ev.bind ht (Ev.bind (eqLane x x hs) ?_)
  simp only [decide_true, Bool.not_true, cond_false]
  refine Ev.bind hte (Ev.bind (eqEventS came came hc) ?_)
  simp only [decide_true, Bool.not_true, cond_false]
  exact Ev.now _
end Go.Proofs.Ytjgpacfhokpfdaa.Pure
