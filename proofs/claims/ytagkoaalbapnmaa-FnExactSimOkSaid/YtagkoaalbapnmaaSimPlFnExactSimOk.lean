/- Whether a run is ok: the reference's SimOk and the program's are one plain function. Runs measured, carried over, compared. -/
import Derived.Test.YtagkoaalbapnmaaWordPlFnExactSimOk
set_option linter.unusedVariables false
set_option linter.unusedSimpArgs false
namespace Go.Proofs.Ytagkoaalbapnmaa.SFnExactSimOk
open Go Go.Sx Go.Pl

abbrev Si := List St3 × List Ev7 × List Ou5
def SmallSi (x : Si) : Prop := x.1.length ≤ 1048576 ∧ x.2.1.length ≤ 1048576 ∧ x.2.2.length ≤ 1048576
def LongSi (x : Si) : Prop := x.1.length ≤ maxLen ∧ x.2.1.length ≤ maxLen ∧ x.2.2.length ≤ maxLen
def simM (x : Si) : Bool := decide (x.1.length = 4) && (eventsM x.2.1 100 && (outsM x.2.2 96 && x.1.all stM))
theorem not_four (n : Nat) : (!((n : Int) != 4)) = decide (n = 4) := by
  by_cases hm : n = 4
  · subst hm; rfl
  · have : ((n : Int) != 4) = true := bne_iff_ne.2 (by omega)
    rw [this, decide_eq_false hm]; rfl
theorem specSim (x : Si) (h : SmallSi x) : Ev (fun k => spec_SimOk k x) (simM x) := by
  have hl := h.1
  refine Ev.step (fun k => spec_SimOk_eq k x) ?_
  unfold simM
  rw [← not_four]
  refine Ev.andn fun _ => Ev.bind (Ev.of 1 fun m => spec_l2Most_eq m) (Ev.and (specEvents_ev _ _ h.2.1) fun _ => Ev.and (specOuts_ev _ _ h.2.2) fun _ => ?_)
  refine EvL.ev (L := fun k j => spec_SimOk_4 k j 0 x) ?_
  rw [← all_at (α := St3) x.1 (dflt t_impl_State) stM]
  refine all_loop (fun k j i => spec_SimOk_4 k j (i : Int) x) x.1 (dflt t_impl_State) _ (fun k j => ?_) fun i hi rest hr => ?_
  · rw [spec_SimOk_4_eq, decide_eq_false (by omega)]; rfl
  · have c1 : (i : Int) < (x.1.length : Int) := by omega
    have c2 : (0 : Int) ≤ (i : Int) := by omega
    refine EvL.step (fun k j => spec_SimOk_4_eq k j (i : Int) x) ?_
    simp only [decide_eq_true c1, decide_eq_true c2, cond_true, Int.toNat_natCast, w64n i (by omega)]
    exact EvL.and (Ev.of 3 fun m => specState m _) fun _ => hr
theorem implSim (x : Si) (h : SmallSi x) : Ev (fun k => impl_SimOk k x) (simM x) := by
  have hl := h.1
  have e : simM x = (decide (x.1.length = 4) && (x.1.all stM && (eventsM x.2.1 100 && outsM x.2.2 96))) := by
    unfold simM
    cases decide (x.1.length = 4) <;> cases eventsM x.2.1 100 <;> cases outsM x.2.2 96 <;> cases x.1.all stM <;> rfl
  rw [e, ← not_four]
  refine Ev.step (fun k => impl_SimOk_eq k x) (Ev.andn fun _ => ?_)
  refine EvL.ev (L := fun k j => impl_SimOk_4 k j x.1 (x.1.length : Int) 0 x) ?_
  have := loop_up (fun k j i => impl_SimOk_4 k j x.1 (x.1.length : Int) (i : Int) x) x.1.length (fun i => (x.1.drop i).all stM && (eventsM x.2.1 100 && outsM x.2.2 96)) ?_ (fun i hi hr => ?_) 0 (by omega)
  · exact this
  · refine EvL.step (M := fun k _ => (impl_eventsOk k x.2.1 100).bind fun x1 => cond x1 ((impl_outsOk k x.2.2 96).bind fun x2 => some x2) (some false)) (fun k j => ?_) ?_
    · rw [impl_SimOk_4_eq, decide_eq_false (by omega), cond_false]
    · rw [List.drop_length]
      exact (Ev.and' (implEvents_ev _ _ h.2.1) fun _ => Ev.bind (implOuts_ev _ _ h.2.2) (Ev.now _)).L
  · have c1 : (i : Int) < (x.1.length : Int) := by omega
    have c2 : (0 : Int) ≤ (i : Int) := by omega
    refine EvL.step (fun k j => impl_SimOk_4_eq k j x.1 (x.1.length : Int) (i : Int) x) ?_
    simp only [decide_eq_true c1, decide_eq_true c2, cond_true, Int.toNat_natCast, w64n i (by omega)]
    rw [getD_drop x.1 (dflt t_impl_State) i hi, List.all_cons, Bool.and_assoc]
    exact EvL.and (Ev.of 3 fun m => implState m _) fun _ => hr

/-! ### measured, carried over, compared -/
theorem szStateS (l : List St3) (c : Int) (h0 : 0 ≤ c) (h1 : c ≤ 1048576) (hl : l.length ≤ maxLen) : ∃ r : Int, Ev (fun k => laws_szStateS k l c) r ∧ r ≤ 1048576 ∧ (0 ≤ r → l.length ≤ 1048576) := by
  obtain ⟨r, h, h2⟩ := sz_flat h0 h1 hl
  exact ⟨r, Ev.step (fun k => laws_szStateS_eq k l c) h, h2⟩
theorem szSim (x : Si) (c : Int) (h0 : 0 ≤ c) (h1 : c ≤ 1048576) (h : LongSi x) : ∃ r : Int, Ev (fun k => laws_szSim k x c) r ∧ r ≤ 1048576 ∧ (0 ≤ r → SmallSi x) := by
  obtain ⟨r1, b1, c1, d1⟩ := szStateS _ c h0 h1 h.1
  obtain ⟨r, e1, e2, e3⟩ := sz_and (q := x.2.1.length ≤ 1048576 ∧ x.2.2.length ≤ 1048576) (g := fun k t => (laws_szEventS k x.2.1 t).bind fun x1 => cond (decide (x1 < 0)) (some (-1)) ((laws_szOutS k x.2.2 x1).bind fun x2 => cond (decide (x2 < 0)) (some (-1)) (some x2))) b1 c1 d1 fun hr => by
    obtain ⟨r2, b2, c2, d2⟩ := szEventS x.2.1 r1 hr c1 h.2.1
    exact sz_and b2 c2 d2 fun hr2 => sz_end (szOutS x.2.2 r2 hr2 c2 h.2.2)
  exact ⟨r, Ev.step (fun k => laws_szSim_eq k x c) e1, e2, e3⟩
theorem toStateS (l : List St3) (h : l.length ≤ 1048576) : Ev (fun k => laws_toStateS k l) l := by
  refine Ev.step (fun k => laws_toStateS_eq k l) ?_
  simp only [decide_true, cond_true, Int.toNat_natCast]
  rw [decide_eq_true (by omega)]
  simp only [cond_true]
  refine EvL.ev (L := fun k j => laws_toStateS_3 k j l 0 (List.replicate l.length (dflt t_impl_State))) ?_
  refine (copy_loop (fun k j x i => laws_toStateS_3 k j l (i : Int) x) l (dflt t_laws_State) (dflt t_impl_State) id (fun k j x => ?_) fun i hi => ⟨fun k => laws_toState k (l.getD i (dflt t_laws_State)), Ev.of 1 fun m => laws_toState_eq m _, fun k j x hx => ?_⟩).to (List.map_id l)
  · rw [laws_toStateS_3_eq, decide_eq_false (by omega)]; rfl
  · have c1 : (i : Int) < (l.length : Int) := by omega
    have c2 : (0 : Int) ≤ (i : Int) := by omega
    have c3 : (i : Int) < (x.length : Int) := by omega
    have c4 : i < x.length := by omega
    rw [laws_toStateS_3_eq]
    simp only [decide_eq_true c1, decide_eq_true c2, decide_eq_true c3, decide_eq_true c4, cond_true, Int.toNat_natCast, w64n i (by omega)]
theorem toSim (x : Si) (h : SmallSi x) : Ev (fun k => laws_toSim k x) x := by
  refine Ev.step (fun k => laws_toSim_eq k x) ?_
  exact Ev.bind (toStateS _ h.1) (Ev.bind (toEventS _ h.2.1) (Ev.bind (toOutS _ h.2.2) (Ev.now _)))
instance decSt3 : DecidableEq St3 := fun a b => inferInstance
instance decSi : DecidableEq Si := fun a b => inferInstance
theorem eqStateS (l m : List St3) (h : l.length ≤ 1048576) : Ev (fun k => laws_eqStateS k l m) (decide (l = m)) := by
  refine Ev.step (fun k => laws_eqStateS_eq k l m) (len_ne fun hl => ?_)
  refine EvL.ev (L := fun k j => laws_eqStateS_4 k j l m 0) ?_
  refine eq_loop (fun k j i => laws_eqStateS_4 k j l m (i : Int)) l m (dflt t_impl_State) hl (fun k j => ?_) fun i hi => ⟨fun k => laws_eqState k (l.getD i (dflt t_impl_State)) (m.getD i (dflt t_impl_State)), Ev.of 1 fun n => eqState n _ _, fun k j => ?_⟩
  · rw [laws_eqStateS_4_eq, decide_eq_false (by omega)]; rfl
  · have c1 : (i : Int) < (l.length : Int) := by omega
    have c2 : (0 : Int) ≤ (i : Int) := by omega
    have c3 : (i : Int) < (m.length : Int) := by omega
    rw [laws_eqStateS_4_eq]
    simp only [decide_eq_true c1, decide_eq_true c2, decide_eq_true c3, cond_true, Int.toNat_natCast, w64n i (by omega)]
theorem eqSim (x y : Si) (h : SmallSi x) : Ev (fun k => laws_eqSim k x y) (decide (x = y)) := by
  refine Ev.step (fun k => laws_eqSim_eq k x y) ?_
  refine eq_and (q := x.2 = y.2) (eqStateS _ _ h.1) (fun _ => ?_) Prod.ext_iff
  refine eq_and (q := x.2.2 = y.2.2) (eqEventS _ _ h.2.1) (fun _ => ?_) Prod.ext_iff
  exact eq_and (q := True) (eqOutS _ _ h.2.2) (fun _ => eq_done trivial) (by simp)
end Go.Proofs.Ytagkoaalbapnmaa.SFnExactSimOk
