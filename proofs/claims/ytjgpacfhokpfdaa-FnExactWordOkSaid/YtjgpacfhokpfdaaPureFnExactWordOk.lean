/- Proved: at every word the program's WordOk answers as the reference's. No condition. -/
import Derived.Test.YtjgpacfhokpfdaaWordPlFnExactWordOk
set_option linter.unusedVariables false
namespace Go.Proofs.Ytjgpacfhokpfdaa.Pure
open Go Go.Sx Go.Pl Go.Proofs.Ytjgpacfhokpfdaa.SFnExactWordOk

theorem FnExactWordOk : Goal := by
  intro x hg
  refine Ev.ex (r := true) ?_
  refine Ev.step (fun k => laws_FnExactWordOk_eq k x) ?_
  have hlong : LongWo x := by
    obtain ⟨_, _, _, _, _, _, _, h1, h2, h3, h4⟩ := hg
    exact ⟨h1.1, h2.1, h3.1, h4.1⟩
  obtain ⟨r, hr, hr1, hr2⟩ := szWord x 1048576 (by decide) (by decide) hlong
  refine Ev.bind hr (Ev.cond (fun _ => Ev.now _) fun h0 => ?_)
  have h0 : ¬ r < 0 := by simpa using h0
  have hs := hr2 (by omega)
  have ht := toWord x hs
  refine Ev.bind ht (Ev.bind (specWord x hs) (Ev.bind ht (Ev.bind (implWord x hs) ?_)))
  refine Ev.cond (fun h => ?_) fun _ => Ev.bind ht (Ev.bind (eqWord x x hs) ?_)
  · cases hb : wordM x <;> rw [hb] at h <;> cases h
  simp only [decide_true, Bool.not_true, cond_false]
  exact Ev.now _

end Go.Proofs.Ytjgpacfhokpfdaa.Pure
