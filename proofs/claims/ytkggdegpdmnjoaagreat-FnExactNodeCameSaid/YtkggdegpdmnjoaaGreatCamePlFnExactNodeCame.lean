/- What has come to a process of a node: the reference's NodeCame and the program's are one plain function. -/
import Derived.Test.YtkggdegpdmnjoaaGreatOkNdPlFnExactNodeCame
set_option linter.unusedVariables false
namespace Go.Proofs.YtkggdegpdmnjoaaGreat.SFnExactNodeCame
open Go Go.Sx Go.Pl

def nodeOfM (p : Int) : Int := if inB p 0 3 = true then p.tmod 3 else -1
theorem specNodeOfI (p : Int) : Ev (fun k => spec_NodeOf k p) (nodeOfM p) := by
  refine Ev.step (fun k => spec_NodeOf_eq k p) (Ev.bind (Ev.of 2 fun m => specProc m p) ?_)
  unfold nodeOfM
  exact Ev.cond (fun h => (Ev.now _).to (by rw [nt h]; rfl)) fun h => (Ev.now _).to (by rw [nf h]; rfl)
theorem implNodeOfI (p : Int) : Ev (fun k => impl_NodeOf k p) (nodeOfM p) := by
  refine Ev.step (fun k => impl_NodeOf_eq k p) (Ev.bind (Ev.of 2 fun m => implProc m p) ?_)
  unfold nodeOfM
  exact Ev.cond (fun h => (Ev.now _).to (by rw [nt h]; rfl)) fun h => (Ev.now _).to (by rw [nf h]; rfl)
noncomputable def camM (n : Nd) (p : Int) : List Ev7 := if nodeM n = true then (if nodeOfM p = n.1 then comeM n p else []) else []
theorem camM_len (n : Nd) (p : Int) : (camM n p).length ≤ 1048576 := by
  unfold camM
  by_cases h : nodeM n = true
  · rw [if_pos h]
    split
    · exact come_len n (okNd n h).fair p
    · simp
  · rw [if_neg h]; simp
theorem specNodeCame (n : Nd) (p : Int) (hs : SmallNd n) : Ev (fun k => spec_NodeCame k n p) (camM n p) := by
  unfold camM
  refine Ev.step (fun k => spec_NodeCame_eq k n p) (Ev.bind (specNd n hs) (Ev.cond (fun h0 => (Ev.now _).to ?_) fun h0 => ?_))
  · rw [if_neg (by rw [nt h0]; simp)]
  · rw [if_pos (nf h0)]
    refine Ev.bind (specNodeOfI p) (Ev.cond (fun h1 => (Ev.now _).to ?_) fun h1 => ?_)
    · rw [if_neg (by simpa using h1)]
    · rw [if_pos (by simpa using h1)]
      exact Ev.bind (specCome n (okNd n (nf h0)).fair p) (Ev.now _)
theorem implNodeCame (n : Nd) (p : Int) (hs : SmallNd n) : Ev (fun k => impl_NodeCame k n p) (camM n p) := by
  unfold camM
  refine Ev.step (fun k => impl_NodeCame_eq k n p) (Ev.bind (implNd n hs) (Ev.cond (fun h0 => (Ev.now _).to ?_) fun h0 => ?_))
  · rw [if_neg (by rw [nt h0]; simp)]
  · rw [if_pos (nf h0)]
    have O := okNd n (nf h0)
    refine Ev.bind (implNodeOfI p) (Ev.cond (fun h1 => (Ev.now _).to ?_) fun h1 => ?_)
    · rw [if_neg (by simpa using h1)]
    · rw [if_pos (by simpa using h1)]
      exact Ev.bind (implBody n hs.lanes O.views O.known) (Ev.bind (implCome n O.fair p) (Ev.now _))
end Go.Proofs.YtkggdegpdmnjoaaGreat.SFnExactNodeCame
