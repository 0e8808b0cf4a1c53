/- What has come to a process of a node: the reference's NodeCame and the program's are one plain function. -/
import Derived.Test.YtkggdegpdmnjoaaGreatOkNdPlFnExactNodeTells
set_option linter.unusedVariables false
namespace Go.Proofs.YtkggdegpdmnjoaaGreat.SFnExactNodeTells
open Go Go.Sx Go.Pl

def nodeOfM (p : Int) : Int := if inB p 0 3 = true then p.tmod 3 else -1
theorem specNodeOfI (p : Int) : Ev (fun k => spec_NodeOf k p) (nodeOfM p) := by
  refine Ev.step (fun k => spec_NodeOf_eq k p) (Ev.bind (Ev.of 2 fun m => specProc m p) ?_)
  unfold nodeOfM
  exact Ev.cond (fun h => (Ev.now _).to (by rw [nt h]; rfl)) fun h => (Ev.now _).to (by rw [nf h]; rfl)
theorem implNodeOfI (p : Int) : Ev (fun k => impl_NodeOf k p) (nodeOfM p) := by
  refine Ev.step (fun k => impl_NodeOf_eq k p) (Ev.bind (Ev.of 2 fun m => implProc m p) ?_)
  unfold nodeOfM
  exact Ev.cond (fun h => (Ev.now _).to (by rw [nt h]; rfl)) fun h => (Ev.now _).to (by rw [nf h]; rfl)
noncomputable def camM (n : Nd) (p : Int) : List Ev7 := if nodeM n = true then (if nodeOfM p = n.1 then comeM n p else []) else []
theorem camM_len (n : Nd) (p : Int) : (camM n p).length ≤ 1048576 := by
  unfold camM
  by_cases h : nodeM n = true
  · rw [if_pos h]
    split
    · exact come_len n (okNd n h).fair p
    · simp
  · rw [if_neg h]; simp
end Go.Proofs.YtkggdegpdmnjoaaGreat.SFnExactNodeTells
