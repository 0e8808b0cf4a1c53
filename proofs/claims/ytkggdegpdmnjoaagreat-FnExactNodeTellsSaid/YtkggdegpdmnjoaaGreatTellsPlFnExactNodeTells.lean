/- What a node tells another one: the reference's NodeTells and the program's are one plain function. -/
import Derived.Test.YtkggdegpdmnjoaaGreatCamePlFnExactNodeTells
set_option linter.unusedVariables false
set_option linter.unusedSimpArgs false
namespace Go.Proofs.YtkggdegpdmnjoaaGreat.SFnExactNodeTells
open Go Go.Sx Go.Pl

def toQ (t known : Int) (e : Ev7) : Bool := (nodeOfM e.2.1 == t) && decide (e.1 ≥ known)
noncomputable def tellM (n : Nd) (t : Int) : List Ev7 := sortM ((sentM n.2.2.2.2.2.1 (doneM n)).filter (toQ t (n.2.2.2.2.2.2.2.2.2.2.1.getD t.toNat (dflt t_int))))
theorem sent_fair {n : Nd} (h : Fair n) : (sentM n.2.2.2.2.2.1 (doneM n)).length ≤ 1048576 ∧ ∀ x ∈ sentM n.2.2.2.2.2.1 (doneM n), WfE x := by
  have hall := h.all
  exact ⟨by rw [List.length_append] at hall; omega, fun x hx => h.wf x (List.mem_append_left _ hx)⟩
theorem specTell4 (n : Nd) (t : Int) (h0 : 0 ≤ t) (h1 : t < (n.2.2.2.2.2.2.2.2.2.2.1.length : Int)) (A : List Ev7) (hall : A.length ≤ 1048576) (hwf : ∀ x ∈ A, WfE x) : EvL (fun k j => spec_l22Tells_4 k j t 0 n A []) (sortM (A.filter (toQ t (n.2.2.2.2.2.2.2.2.2.2.1.getD t.toNat (dflt t_int))))) := by
  generalize hkn : n.2.2.2.2.2.2.2.2.2.2.1.getD t.toNat (dflt t_int) = kn
  have hf := filter_range A dE7 (toQ t kn)
  have hfl : (A.filter (toQ t kn)).length ≤ A.length := List.length_filter_le _ _
  refine acc_up (fun i acc => EvL (fun k j => spec_l22Tells_4 k j t (i : Int) n A acc) (sortM (A.filter (toQ t kn)))) A.length (fun i => if toQ t kn (A.getD i dE7) = true then [A.getD i dE7] else []) [] ?_ fun i hi acc ha hrest => ?_
  · rw [List.nil_append, ← hf]
    refine EvL.step (fun k j => spec_l22Tells_4_eq k j t _ n A _) ?_
    have cn : ¬ ((A.length : Int) < (A.length : Int)) := by omega
    simp only [decide_eq_false cn, cond_false]
    exact Ev.L (Ev.bind (sorts _ (by omega) fun x hx => hwf x (List.mem_filter.1 hx).1).1 (Ev.now _))
  · rw [List.nil_append, ← hf] at ha
    have c1 : (i : Int) < (A.length : Int) := by omega
    have c2 : (0 : Int) ≤ (i : Int) := by omega
    refine EvL.step (fun k j => spec_l22Tells_4_eq k j t _ n A _) ?_
    simp only [decide_eq_true c1, decide_eq_true c2, cond_true, Int.toNat_natCast, decide_eq_true hi, w64n i (by omega), decide_eq_true h0, decide_eq_true h1, hkn]
    refine EvL.bind (specNodeOfI _) ?_
    by_cases ht : toQ t kn (A.getD i dE7) = true
    · rw [if_pos ht] at hrest ha
      unfold toQ at ht
      simp only [Bool.and_eq_true] at ht
      have c5 : (acc.length + [((A.getD i dE7).1, (A.getD i dE7).2.1, (A.getD i dE7).2.2.1, (A.getD i dE7).2.2.2.1, (A.getD i dE7).2.2.2.2.1, (A.getD i dE7).2.2.2.2.2.1, (A.getD i dE7).2.2.2.2.2.2)].length) * 56 ≤ 140737488351232 := by simp only [List.length_singleton] at ha ⊢; omega
      have h9 : (nodeOfM (A.getD i (dflt t_impl_Event)).2.1 == t) = true := ht.1
      have h8 : decide ((A.getD i (dflt t_impl_Event)).1 ≥ kn) = true := ht.2
      rw [h9]
      simp only [h8, cond_true, decide_eq_true c5]
      exact hrest
    · rw [if_neg ht, List.append_nil] at hrest
      unfold toQ at ht
      cases h1 : (nodeOfM (A.getD i dE7).2.1 == t) with
      | false =>
        simp only [cond_false]; exact hrest
      | true =>
        rw [h1] at ht
        simp only [Bool.true_and, Bool.not_eq_true] at ht
        have h8 : decide ((A.getD i (dflt t_impl_Event)).1 ≥ kn) = false := ht
        simp only [h8, cond_true, cond_false]; exact hrest
theorem specTell (n : Nd) (h : Fair n) (t : Int) (h0 : 0 ≤ t) (h1 : t < (n.2.2.2.2.2.2.2.2.2.2.1.length : Int)) : Ev (fun k => spec_l22Tells k n t) (tellM n t) := by
  obtain ⟨hs, hw⟩ := sent_fair h
  refine Ev.step (fun k => spec_l22Tells_eq k n t) (Ev.bind (specSent n hs h.lanes h.done) ?_)
  exact EvL.ev (L := fun k j => spec_l22Tells_4 k j t 0 n (sentM n.2.2.2.2.2.1 (doneM n)) []) (specTell4 n t h0 h1 _ hs hw)
theorem implAsk (e : Ev7) (t kn : Int) : Ev (fun k => impl_body_tells_1_h0 k e t kn) (toQ t kn e, (t, ()), (kn, ()), ()) := by
  refine Ev.step (fun k => impl_body_tells_1_h0_eq k e t kn) (Ev.bind (implNodeOfI _) (Ev.cond (fun h => (Ev.now _).to ?_) fun h => (Ev.now _).to ?_))
  · unfold toQ; rw [h]; rfl
  · unfold toQ; rw [h]; rfl
theorem implPickT (l : List Ev7) (hl : l.length ≤ 1048576) (t kn : Int) : Ev (fun k => impl_pick_impl_Event_h1 k l t kn) (l.filter (toQ t kn), (t, ()), (kn, ()), ()) := by
  refine Ev.step (fun k => impl_pick_impl_Event_h1_eq k l t kn) (EvL.ev (L := fun k j => impl_pick_impl_Event_h1_3 k j l (l.length : Int) 0 t kn []) ?_)
  have hf := filter_range l dE7 (toQ t kn)
  have hfl : (l.filter (toQ t kn)).length ≤ l.length := List.length_filter_le _ _
  refine acc_up (fun i acc => EvL (fun k j => impl_pick_impl_Event_h1_3 k j l (l.length : Int) (i : Int) t kn acc) _) l.length (fun (i : Nat) => if toQ t kn (l.getD i dE7) = true then [l.getD i dE7] else []) [] ?_ fun i hi acc ha hrest => ?_
  · rw [List.nil_append, ← hf]
    refine EvL.step (M := fun _ _ => some _) (fun k j => ?_) (EvL.now _)
    rw [impl_pick_impl_Event_h1_3_eq, decide_eq_false (by omega)]; rfl
  · rw [List.nil_append, ← hf] at ha
    have c1 : (i : Int) < (l.length : Int) := by omega
    have c2 : (0 : Int) ≤ (i : Int) := by omega
    refine EvL.step (fun k j => impl_pick_impl_Event_h1_3_eq k j l _ _ t kn _) ?_
    simp only [decide_eq_true c1, decide_eq_true c2, cond_true, Int.toNat_natCast, w64n i (by omega)]
    refine EvL.bind (implAsk _ t kn) (EvL.cond (fun hb => ?_) fun hb => ?_)
    · have hb : toQ t kn (l.getD i dE7) = true := hb
      rw [if_pos hb] at hrest ha
      have c5 : (acc.length + [((l.getD i dE7).1, (l.getD i dE7).2.1, (l.getD i dE7).2.2.1, (l.getD i dE7).2.2.2.1, (l.getD i dE7).2.2.2.2.1, (l.getD i dE7).2.2.2.2.2.1, (l.getD i dE7).2.2.2.2.2.2)].length) * 56 ≤ 140737488351232 := by simp only [List.length_singleton] at ha ⊢; omega
      simp only [decide_eq_true c5, cond_true]
      exact hrest
    · have hb : toQ t kn (l.getD i dE7) = false := hb
      rw [if_neg (by rw [hb]; simp), List.append_nil] at hrest
      exact hrest
theorem implTell (n : Nd) (h : Fair n) (t : Int) (h0 : 0 ≤ t) (h1 : t < (n.2.2.2.2.2.2.2.2.2.2.1.length : Int)) : Ev (fun k => impl_body_tells_h0 k (bodyM n) t) (tellM n t) := by
  obtain ⟨hs, hw⟩ := sent_fair h
  have hdl : (doneM n).length = n.2.2.2.2.1.length := List.length_map _
  have hfl : ((sentM n.2.2.2.2.2.1 (doneM n)).filter (toQ t (n.2.2.2.2.2.2.2.2.2.2.1.getD t.toNat (dflt t_int)))).length ≤ _ := List.length_filter_le _ _
  have key : Ev (fun k => (impl_body_sent_h0 k (bodyM n)).bind fun x0 => (impl_pick_impl_Event_h1 k x0 t (n.2.2.2.2.2.2.2.2.2.2.1.getD t.toNat (dflt t_int))).bind fun x1 => (impl_EventSort k x1.1).bind fun x2 => some x2) (tellM n t) :=
    Ev.bind (implSent (bodyM n) hs (by show (doneM n).length ≤ _; rw [hdl]; exact h.lanes) (fun x hx => by
      obtain ⟨l, hl, rfl⟩ := List.mem_map.1 (show x ∈ doneM n from hx)
      exact h.done l hl)) (Ev.bind (implPickT _ hs t _) (Ev.bind (sorts _ (by omega) fun x hx => hw x (List.mem_filter.1 hx).1).2.1 (Ev.now _)))
  have c3 : t < (((bodyM n).2.2.2.2.2.1).length : Int) := h1
  refine Ev.step (fun k => ?_) key
  rw [impl_body_tells_h0_eq, decide_eq_true h0, cond_true, decide_eq_true c3, cond_true]
  rfl
noncomputable def tellsM (n : Nd) (t : Int) : List Ev7 := if nodeM n = true then (if inB t 0 2 = true then (if t = n.1 then [] else tellM n t) else []) else []
theorem tellsM_len (n : Nd) (t : Int) : (tellsM n t).length ≤ 1048576 := by
  unfold tellsM
  by_cases h : nodeM n = true
  · rw [if_pos h]
    obtain ⟨hs, hw⟩ := sent_fair (okNd n h).fair
    split
    · split
      · simp
      · have hfl : ((sentM n.2.2.2.2.2.1 (doneM n)).filter (toQ t (n.2.2.2.2.2.2.2.2.2.2.1.getD t.toNat (dflt t_int)))).length ≤ _ := List.length_filter_le _ _
        have := (sorts ((sentM n.2.2.2.2.2.1 (doneM n)).filter (toQ t (n.2.2.2.2.2.2.2.2.2.2.1.getD t.toNat (dflt t_int)))) (by omega) fun x hx => hw x (List.mem_filter.1 hx).1).2.2.1
        unfold tellM
        omega
    · simp
  · rw [if_neg h]; simp
theorem in02 {t : Int} (h : inB t 0 2 = true) : 0 ≤ t ∧ t ≤ 2 := by
  unfold inB at h
  simp only [Bool.and_eq_true, decide_eq_true_eq] at h
  omega
theorem specNodeTells (n : Nd) (t : Int) (hs : SmallNd n) : Ev (fun k => spec_NodeTells k n t) (tellsM n t) := by
  unfold tellsM
  refine Ev.step (fun k => spec_NodeTells_eq k n t) (Ev.bind (specNd n hs) (Ev.cond (fun h0 => (Ev.now _).to ?_) fun h0 => ?_))
  · rw [if_neg (by rw [nt h0]; simp)]
  · rw [if_pos (nf h0)]
    have O := okNd n (nf h0)
    refine Ev.bind (Ev.of 1 fun m => specIn m _ _ _) (Ev.cond (fun h1 => (Ev.now _).to ?_) fun h1 => ?_)
    · rw [if_neg (by rw [nt h1]; simp)]
    · rw [if_pos (nf h1)]
      have hi := in02 (nf h1)
      refine Ev.cond (fun h2 => (Ev.now _).to ?_) fun h2 => ?_
      · rw [if_pos (by simpa using h2)]
      · rw [if_neg (by simpa using h2)]
        exact Ev.bind (specTell n O.fair t hi.1 (by have := O.known; omega)) (Ev.now _)
theorem implNodeTells (n : Nd) (t : Int) (hs : SmallNd n) : Ev (fun k => impl_NodeTells k n t) (tellsM n t) := by
  unfold tellsM
  refine Ev.step (fun k => impl_NodeTells_eq k n t) (Ev.bind (implNd n hs) (Ev.cond (fun h0 => (Ev.now _).to ?_) fun h0 => ?_))
  · rw [if_neg (by rw [nt h0]; simp)]
  · rw [if_pos (nf h0)]
    have O := okNd n (nf h0)
    refine Ev.bind (Ev.of 2 fun m => implNode m _) (Ev.cond (fun h1 => (Ev.now _).to ?_) fun h1 => ?_)
    · rw [if_neg (by rw [nt h1]; simp)]
    · rw [if_pos (nf h1)]
      have hi := in02 (nf h1)
      refine Ev.cond (fun h2 => (Ev.now _).to ?_) fun h2 => ?_
      · rw [if_pos (by simpa using h2)]
      · rw [if_neg (by simpa using h2)]
        exact Ev.bind (implBody n hs.lanes O.views O.known) (Ev.bind (implTell n O.fair t hi.1 (by have := O.known; omega)) (Ev.now _))
end Go.Proofs.YtkggdegpdmnjoaaGreat.SFnExactNodeTells
