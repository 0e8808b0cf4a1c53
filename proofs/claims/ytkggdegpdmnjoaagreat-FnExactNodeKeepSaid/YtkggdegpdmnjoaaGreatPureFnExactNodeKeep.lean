/- Proved: at every node the program's NodeKeep answers as the reference's; it writes into no argument, and its answer owns its memory. No condition. -/
import Derived.Test.YtkggdegpdmnjoaaGreatKeepPlFnExactNodeKeep
import Derived.Test.YtkggdegpdmnjoaaGreatMarkNdPlFnExactNodeKeep
import Derived.Test.YtkggdegpdmnjoaaGreatMarkIPlFnExactNodeKeep
set_option linter.unusedVariables false
namespace Go.Proofs.YtkggdegpdmnjoaaGreat.SFnExactNodeKeep
open Go Go.Sx Go.Pl
theorem yes {g f : Nat → Option Bool} (hg : Ev g true) (hf : Ev f true) : Ev (fun k => (g k).bind fun x => cond (!x) (some false) (f k)) true := Ev.bind hg hf
end Go.Proofs.YtkggdegpdmnjoaaGreat.SFnExactNodeKeep
namespace Go.Proofs.YtkggdegpdmnjoaaGreat.Pure
open Go Go.Sx Go.Pl Go.Proofs.YtkggdegpdmnjoaaGreat.SFnExactNodeKeep
theorem FnExactNodeKeep : Goal := by
  intro n hg
  refine Ev.ex (r := true) ?_
  refine Ev.step (fun k => laws_FnExactNodeKeep_eq k n) ?_
  obtain ⟨r, hr, hr1, hr2⟩ := szNode n 1048576 (by decide) (by decide) (goodNd n hg)
  refine Ev.bind hr (Ev.cond (fun _ => Ev.now _) fun h0 => ?_)
  have h0 : ¬ r < 0 := by simpa using h0
  have hs := hr2 (by omega)
  have ht := toNode n hs
  have hl : (keptM n).length ≤ 100000000 := by have := keptM_len n hs; omega
  have he : Ev (fun k => laws_eqIntS k (keptM n) (keptM n)) true := eqIntL _ hl
  refine Ev.bind ht (Ev.bind (specNodeKeep n hs) (Ev.bind ht (Ev.bind (implNodeKeep n hs) (yes he (Ev.bind ht (yes (eqNode n hs) ?_))))))
  refine mark_nd (goodNd n hg) hr (by omega) false (yes he (Ev.bind (markNS 1 (by decide) (by decide) _ hl) ?_))
  exact heldN_ev hl (Ev.bind ht (Ev.bind (implNodeKeep n hs) (yes he (heldN_ev hl (Ev.now _)))))
end Go.Proofs.YtkggdegpdmnjoaaGreat.Pure
