/- Proved: the program's SimStart is the reference's, and its answer owns its memory. No condition of ours. -/
import Derived.Test.YtagkoaalbapnmaaEventPlFnExactSimStart
import Derived.Test.YtagkoaalbapnmaaSimPlFnExactSimStart
import Derived.Test.YtagkoaalbapnmaaMarkEPlFnExactSimStart
import Derived.Test.YtagkoaalbapnmaaMarkTPlFnExactSimStart
set_option linter.unusedVariables false
set_option linter.unusedSimpArgs false
namespace Go.Proofs.Ytagkoaalbapnmaa.Pure
open Go Go.Sx Go.Pl Go.Proofs.Ytagkoaalbapnmaa.SFnExactSimStart
def F (i : Int) : Ev7 := (0, i, -1, 0, i, 0, i)
def F4 : List Ev7 := [F 0, F 1, F 2, F 3]
def S4 : List St3 := [(0, 0, 0), (0, 0, 0), (0, 0, 0), (0, 0, 0)]
theorem specFirst (i : Int) (h : inB i 0 3 = true) : Ok (fun k => spec_AppFirst k i) (fun b => b = F i) :=
  ⟨_, Ev.of 3 fun m => by rw [spec_AppFirst_eq, specProc, Option.bind_some, h]; rfl, rfl⟩
theorem implFirst (i : Int) (h : inB i 0 3 = true) : Ok (fun k => impl_AppFirst k i) (fun b => b = F i) :=
  ⟨_, Ev.of 3 fun m => by rw [impl_AppFirst_eq, implProc, Option.bind_some, h]; rfl, rfl⟩
theorem specStep (i : Nat) (hi : i < 4) (s : List St3) (e : List Ev7) (hs : s.length = i) (he : e.length = i) {Q : Si → Prop} (h : OkL (fun k j => spec_SimStart_3 k j ((i + 1 : Nat) : Int) [] [] [] (s ++ [(0, 0, 0)]) (e ++ [F (i : Int)]) []) Q) : OkL (fun k j => spec_SimStart_3 k j (i : Int) [] [] [] s e []) Q := by
  refine OkL.step (fun k j => spec_SimStart_3_eq k j (i : Int) [] [] [] s e []) (OkL.cond (fun _ => ?_) fun hc => absurd (of_decide_eq_false hc) (by omega))
  refine OkL.chk (by rw [hs]; simp only [List.length_singleton]; omega) ?_
  refine OkL.bind (specFirst (i : Int) (by unfold inB; rw [decide_eq_true (by omega), decide_eq_true (by omega)]; rfl)) fun x hx => ?_
  subst hx
  refine OkL.chk (by rw [he]; simp only [List.length_singleton]; omega) ?_
  rw [w64n i (by omega)]
  exact h
theorem specStart : Ok (fun k => spec_SimStart k) (fun b => b = (S4, F4, [])) := by
  refine Ok.step (fun k => spec_SimStart_eq k) (OkL.ok (L := fun k j => spec_SimStart_3 k j ((0 : Nat) : Int) [] [] [] [] [] []) ?_)
  refine specStep 0 (by omega) _ _ rfl rfl (specStep 1 (by omega) _ _ rfl rfl (specStep 2 (by omega) _ _ rfl rfl (specStep 3 (by omega) _ _ rfl rfl ?_)))
  exact OkL.step (fun k j => spec_SimStart_3_eq k j _ [] [] [] _ _ []) (OkL.cond (fun hc => absurd (of_decide_eq_true hc) (by decide)) fun _ => OkL.some rfl)
theorem implStep (i : Nat) (hi : i < 4) (e : List Ev7) (he : e.length = i) {Q : List Ev7 → Prop} (h : OkL (fun k j => impl_firstEvents_3 k j ((i + 1 : Nat) : Int) (e ++ [F (i : Int)])) Q) : OkL (fun k j => impl_firstEvents_3 k j (i : Int) e) Q := by
  refine OkL.step (fun k j => impl_firstEvents_3_eq k j (i : Int) e) (OkL.cond (fun _ => ?_) fun hc => absurd (of_decide_eq_false hc) (by omega))
  refine OkL.bind (implFirst (i : Int) (by unfold inB; rw [decide_eq_true (by omega), decide_eq_true (by omega)]; rfl)) fun x hx => ?_
  subst hx
  refine OkL.chk (by rw [he]; simp only [List.length_singleton]; omega) ?_
  rw [w64n i (by omega)]
  exact h
theorem sort4 : Ok (fun k => impl_EventSort k F4) (fun b => b = F4) := by
  refine Ok.imp (implEventSort F4 (by decide) fun x hx => ?_) fun b hb => strict_eq hb.1 (by unfold Srt F4 lessE evL F; simp [lexM]) hb.2.1
  simp only [F4, List.mem_cons, List.not_mem_nil, or_false] at hx
  rcases hx with rfl | rfl | rfl | rfl <;> exact ⟨by decide, by decide, by decide, by decide, by decide, by decide, by decide⟩
theorem implStart : Ok (fun k => impl_SimStart k) (fun b => b = (S4, F4, [])) := by
  refine Ok.step (fun k => impl_SimStart_eq k) (Ok.bind (P := fun b => b = F4) ?_ fun x hx => ?_)
  · refine Ok.step (fun k => impl_firstEvents_eq k) (OkL.ok (L := fun k j => impl_firstEvents_3 k j ((0 : Nat) : Int) []) ?_)
    refine implStep 0 (by omega) _ rfl (implStep 1 (by omega) _ rfl (implStep 2 (by omega) _ rfl (implStep 3 (by omega) _ rfl ?_)))
    refine OkL.step (fun k j => impl_firstEvents_3_eq k j _ _) (OkL.cond (fun hc => absurd (of_decide_eq_true hc) (by decide)) fun _ => OkL.of ?_)
    exact Ok.bind sort4 fun b hb => Ok.some hb
  · subst hx
    exact Ok.some rfl
theorem held : Ok (fun k => laws_heldSim k (mkT 1 4, mkE 13 4, mkO 41 0) 1) (fun b => b = 41) := by
  refine Ok.step (fun k => laws_heldSim_eq k _ 1) ?_
  refine Ok.bind (P := fun b => b = 13) ⟨_, heldTS 1 (by omega) (by omega) 4 (by omega), by decide⟩ fun x hx => ?_
  subst hx
  refine Ok.cond (fun h => by cases h) fun _ => ?_
  refine Ok.bind (P := fun b => b = 41) ⟨_, heldES 13 (by omega) (by omega) 4 (by omega), by decide⟩ fun x hx => ?_
  subst hx
  refine Ok.cond (fun h => by cases h) fun _ => ?_
  refine Ok.bind (P := fun b => b = 41) ⟨_, heldO 41 (by omega) (by omega) 0 (by omega), by decide⟩ fun x hx => ?_
  subst hx
  exact Ok.cond (fun h => by cases h) fun _ => Ok.some rfl
theorem mark : Ok (fun k => laws_markSim_h0 k 1 S4 F4 []) (fun b => b = (41, mkT 1 4, mkE 13 4, mkO 41 0, ())) := by
  refine Ok.step (fun k => laws_markSim_h0_eq k 1 S4 F4 []) ?_
  refine Ok.bind (P := fun b => b = (13, mkT 1 4, ())) ⟨_, markTS 1 (by omega) (by omega) S4 (by decide), rfl⟩ fun x hx => ?_
  subst hx
  refine Ok.bind (P := fun b => b = (41, mkE 13 4, ())) ⟨_, markES 13 (by omega) (by omega) F4 (by decide), rfl⟩ fun x hx => ?_
  subst hx
  refine Ok.bind (P := fun b => b = (41, mkO 41 0, ())) ⟨_, markO 41 (by omega) (by omega) [] (by decide), rfl⟩ fun x hx => ?_
  subst hx
  exact Ok.some rfl
theorem same : Ok (fun k => laws_eqSim k (S4, F4, []) (S4, F4, [])) (fun b => b = true) :=
  ⟨_, eqSim _ _ ⟨by decide, by decide, by decide⟩, by simp⟩
theorem law : Ok (fun k => laws_FnExactSimStart k) (fun b => b = true) := by
  refine Ok.step (fun k => laws_FnExactSimStart_eq k) ?_
  refine Ok.bind specStart fun x hx => Ok.bind implStart fun y hy => ?_
  subst hx hy
  refine Ok.bind same fun z hz => ?_
  subst hz
  refine Ok.cond (fun h => by cases h) fun _ => Ok.bind mark fun m hm => ?_
  subst hm
  refine Ok.bind held fun q hq => ?_
  subst hq
  refine Ok.cond (fun h => by cases h) fun _ => Ok.cond (fun h => by cases h) fun _ => Ok.bind implStart fun y hy => ?_
  subst hy
  refine Ok.bind same fun z hz => ?_
  subst hz
  refine Ok.cond (fun h => by cases h) fun _ => Ok.bind held fun q hq => ?_
  subst hq
  exact Ok.cond (fun h => by cases h) fun _ => Ok.cond (fun h => by cases h) fun _ => Ok.some rfl
theorem FnExactSimStart : Goal := by
  obtain ⟨r, hr, rfl⟩ := law
  exact hr.ex
end Go.Proofs.Ytagkoaalbapnmaa.Pure
