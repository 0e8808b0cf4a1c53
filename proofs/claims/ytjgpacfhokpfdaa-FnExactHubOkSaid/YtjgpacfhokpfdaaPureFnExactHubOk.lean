/- Proved: at every hub the program's HubOk answers as the reference's. No condition. -/
import Derived.Test.YtjgpacfhokpfdaaHubPlFnExactHubOk
set_option linter.unusedVariables false
namespace Go.Proofs.Ytjgpacfhokpfdaa.Pure
open Go Go.Sx Go.Pl Go.Proofs.Ytjgpacfhokpfdaa.SFnExactHubOk

theorem FnExactHubOk : Goal := by
  intro x hg
  refine Ev.ex (r := true) ?_
  refine Ev.step (fun k => laws_FnExactHubOk_eq k x) ?_
  have hw : ∀ l : List Wo, Go.Sx.Good t_sl_laws_Word l → LongWs l := by
    intro l ⟨h1, h2⟩
    refine ⟨h1, fun y hy => ?_⟩
    obtain ⟨_, _, _, _, _, _, _, h3, h4, h5, h6⟩ := h2 y hy
    exact ⟨h3.1, h4.1, h5.1, h6.1⟩
  have hlong : LongHu x := ⟨hw _ hg.2.1, hw _ hg.2.2.1, hw _ hg.2.2.2⟩
  obtain ⟨r, hr, hr1, hr2⟩ := szHub x 1048576 (by decide) (by decide) hlong
  refine Ev.bind hr (Ev.cond (fun _ => Ev.now _) fun h0 => ?_)
  have h0 : ¬ r < 0 := by simpa using h0
  have hs := hr2 (by omega)
  have ht := toHub x hs
  refine Ev.bind ht (Ev.bind (specHub x hs) (Ev.bind ht (Ev.bind (implHub x hs) ?_)))
  refine Ev.cond (fun h => ?_) fun _ => Ev.bind ht (Ev.bind (eqHub x x hs) ?_)
  · cases hb : hubM x <;> rw [hb] at h <;> cases h
  simp only [decide_true, Bool.not_true, cond_false]
  exact Ev.now _

end Go.Proofs.Ytjgpacfhokpfdaa.Pure
