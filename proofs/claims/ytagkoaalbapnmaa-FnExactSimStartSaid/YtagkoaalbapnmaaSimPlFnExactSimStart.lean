/- Whether a run is ok: the reference's SimOk and the program's are one plain function. Runs measured, carried over, compared. -/
import Derived.Test.YtagkoaalbapnmaaWordPlFnExactSimStart
set_option linter.unusedVariables false
set_option linter.unusedSimpArgs false
namespace Go.Proofs.Ytagkoaalbapnmaa.SFnExactSimStart
open Go Go.Sx Go.Pl

abbrev Si := List St3 × List Ev7 × List Ou5
def SmallSi (x : Si) : Prop := x.1.length ≤ 1048576 ∧ x.2.1.length ≤ 1048576 ∧ x.2.2.length ≤ 1048576
def LongSi (x : Si) : Prop := x.1.length ≤ maxLen ∧ x.2.1.length ≤ maxLen ∧ x.2.2.length ≤ maxLen
def simM (x : Si) : Bool := decide (x.1.length = 4) && (eventsM x.2.1 100 && (outsM x.2.2 96 && x.1.all stM))
theorem not_four (n : Nat) : (!((n : Int) != 4)) = decide (n = 4) := by
  by_cases hm : n = 4
  · subst hm; rfl
  · have : ((n : Int) != 4) = true := bne_iff_ne.2 (by omega)
    rw [this, decide_eq_false hm]; rfl
/-! ### measured, carried over, compared -/
instance decSt3 : DecidableEq St3 := fun a b => inferInstance
instance decSi : DecidableEq Si := fun a b => inferInstance
theorem eqStateS (l m : List St3) (h : l.length ≤ 1048576) : Ev (fun k => laws_eqStateS k l m) (decide (l = m)) := by
  refine Ev.step (fun k => laws_eqStateS_eq k l m) (len_ne fun hl => ?_)
  refine EvL.ev (L := fun k j => laws_eqStateS_4 k j l m 0) ?_
  refine eq_loop (fun k j i => laws_eqStateS_4 k j l m (i : Int)) l m (dflt t_impl_State) hl (fun k j => ?_) fun i hi => ⟨fun k => laws_eqState k (l.getD i (dflt t_impl_State)) (m.getD i (dflt t_impl_State)), Ev.of 1 fun n => eqState n _ _, fun k j => ?_⟩
  · rw [laws_eqStateS_4_eq, decide_eq_false (by omega)]; rfl
  · have c1 : (i : Int) < (l.length : Int) := by omega
    have c2 : (0 : Int) ≤ (i : Int) := by omega
    have c3 : (i : Int) < (m.length : Int) := by omega
    rw [laws_eqStateS_4_eq]
    simp only [decide_eq_true c1, decide_eq_true c2, decide_eq_true c3, cond_true, Int.toNat_natCast, w64n i (by omega)]
theorem eqSim (x y : Si) (h : SmallSi x) : Ev (fun k => laws_eqSim k x y) (decide (x = y)) := by
  refine Ev.step (fun k => laws_eqSim_eq k x y) ?_
  refine eq_and (q := x.2 = y.2) (eqStateS _ _ h.1) (fun _ => ?_) Prod.ext_iff
  refine eq_and (q := x.2.2 = y.2.2) (eqEventS _ _ h.2.1) (fun _ => ?_) Prod.ext_iff
  exact eq_and (q := True) (eqOutS _ _ h.2.2) (fun _ => eq_done trivial) (by simp)
end Go.Proofs.Ytagkoaalbapnmaa.SFnExactSimStart
