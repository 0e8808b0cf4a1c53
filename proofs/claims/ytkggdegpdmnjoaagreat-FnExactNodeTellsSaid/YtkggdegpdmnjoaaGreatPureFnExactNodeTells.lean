/- Proved: at every node and other node the program's NodeTells answers as the reference's; it writes into no argument, and its answer owns its memory. No condition. -/
import Derived.Test.YtkggdegpdmnjoaaGreatTellsPlFnExactNodeTells
import Derived.Test.YtkggdegpdmnjoaaGreatMarkNdPlFnExactNodeTells
set_option linter.unusedVariables false
namespace Go.Proofs.YtkggdegpdmnjoaaGreat.SFnExactNodeTells
open Go Go.Sx Go.Pl
theorem yes {g f : Nat → Option Bool} (hg : Ev g true) (hf : Ev f true) : Ev (fun k => (g k).bind fun x => cond (!x) (some false) (f k)) true := Ev.bind hg hf
/-- What was written into an answer is read back. -/
theorem held_ev {l : List Ev7} {g f : Nat → Option Bool} (hl : l.length ≤ 1048576) (hf : Ev f true) :
    Ev (fun k => (laws_heldEventS k (mkE 1 l.length) 1).bind fun x => cond (decide (x < 0)) (some false) (cond (x != 1 + 7 * (l.length : Int)) (some false) (f k))) true := by
  refine Ev.bind (heldES 1 (by decide) (by decide) l.length hl) ?_
  have h1 : ¬ (1 + 7 * (l.length : Int) < 0) := by omega
  rw [decide_eq_false h1]
  simp only [cond_false, bne_self_eq_false]
  exact hf
end Go.Proofs.YtkggdegpdmnjoaaGreat.SFnExactNodeTells
namespace Go.Proofs.YtkggdegpdmnjoaaGreat.Pure
open Go Go.Sx Go.Pl Go.Proofs.YtkggdegpdmnjoaaGreat.SFnExactNodeTells
theorem FnExactNodeTells : Goal := by
  intro n p hg _
  refine Ev.ex (r := true) ?_
  refine Ev.step (fun k => laws_FnExactNodeTells_eq k n p) ?_
  obtain ⟨r, hr, hr1, hr2⟩ := szNode n 1048576 (by decide) (by decide) (goodNd n hg)
  refine Ev.bind hr (Ev.cond (fun _ => Ev.now _) fun h0 => ?_)
  have h0 : ¬ r < 0 := by simpa using h0
  have hs := hr2 (by omega)
  have ht := toNode n hs
  have hl := tellsM_len n p
  have he : Ev (fun k => laws_eqEventS k (tellsM n p) (tellsM n p)) true := (eqEventS _ _ hl).to (by simp)
  refine Ev.bind ht (Ev.bind (specNodeTells n p hs) (Ev.bind ht (Ev.bind (implNodeTells n p hs) (yes he (Ev.bind ht (yes (eqNode n hs) ?_))))))
  refine mark_nd (goodNd n hg) hr (by omega) false (yes he (Ev.bind (markES 1 (by decide) (by decide) _ hl) ?_))
  exact held_ev (g := fun _ => none) hl (Ev.bind ht (Ev.bind (implNodeTells n p hs) (yes he (held_ev (g := fun _ => none) hl (Ev.now _)))))
end Go.Proofs.YtkggdegpdmnjoaaGreat.Pure
