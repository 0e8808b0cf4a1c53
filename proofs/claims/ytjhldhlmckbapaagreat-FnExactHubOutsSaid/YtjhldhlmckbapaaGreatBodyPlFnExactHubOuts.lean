/- The inside of a node: what the program makes of a node, and what has come to a process by it. -/
import Derived.Test.YtjhldhlmckbapaaGreatNodePlFnExactHubOuts
set_option linter.unusedVariables false
set_option linter.unusedSimpArgs false
namespace Go.Proofs.YtjhldhlmckbapaaGreat.SFnExactHubOuts
open Go Go.Sx Go.Pl

theorem wfS (n : Nat) (h : n ≤ 1048576) : (Lit.int .i64 (n : Int)).wf = true := by
  simp [Lit.wf, IntKind.min, IntKind.max, IntKind.signed, IntKind.bits]
  omega
def viewsM (views : List Vw) : List (Int × Vw) := (List.range views.length).map fun (i : Nat) => ((i : Int), views.getD i dVw)
theorem mqput_at (l : List (Int × Vw)) (k : Int) (v : Vw) (h : ∀ e ∈ l, e.1 ≠ k) : mqput l k v = l ++ [(k, v)] := by
  induction l with
  | nil => rfl
  | cons e r ih =>
    have h1 : (e.1 == k) = false := beq_false_of_ne (h e List.mem_cons_self)
    simp only [mqput, h1, cond_false, List.cons_append, ih fun e he => h e (List.mem_cons_of_mem _ he)]
theorem viewsM_get (views : List Vw) (i : Nat) (h : i < views.length) (d : Vw) : mqget (viewsM views) (i : Int) d = views.getD i dVw := by
  unfold mqget viewsM
  have : ((List.range views.length).map fun (i : Nat) => ((i : Int), views.getD i dVw)).find? (fun e => e.1 == (i : Int)) = some ((i : Int), views.getD i dVw) := by
    rw [List.find?_eq_some_iff_getElem]
    refine ⟨by simp, i, by simpa using h, by simp, fun j hj => ?_⟩
    simp only [List.getElem_map, List.getElem_range, Bool.not_eq_true', beq_eq_false_iff_ne]
    omega
  rw [this]
theorem map_getD {α β : Type} (f : α → β) (l : List α) (i : Nat) (hi : i < l.length) (d : α) (e : β) : (l.map f).getD i e = f (l.getD i d) := by
  rw [getD_eq _ _ _ hi, getD_eq _ _ _ (by rw [List.length_map]; exact hi), List.getElem_map]
theorem done_at (n : Nd) (i : Nat) (hi : i < n.2.2.2.2.1.length) : (doneM n).getD i (dflt t_sl_impl_Past) = (n.2.2.2.2.1.getD i dLa).2.2 := map_getD _ _ _ hi _ _
def keepM (n : Nd) : Kp := (n.1, n.2.2.1, n.2.2.2.1, n.2.2.2.2.2.2.2.1, n.2.2.2.2.1.map (·.2.1), n.2.2.2.2.2.1, n.2.2.2.2.2.2.1)
def bodyM (n : Nd) : Bd := (keepM n, n.2.1, doneM n, n.2.2.2.2.2.2.2.2.1, viewsM n.2.2.2.2.2.2.2.2.2.1, n.2.2.2.2.2.2.2.2.2.2.1, n.2.2.2.2.2.2.2.2.2.2.2.1, n.2.2.2.2.2.2.2.2.2.2.2.2)
theorem implKeep (n : Nd) (hl : n.2.2.2.2.1.length ≤ 1048576) : Ev (fun k => impl_keepOf k n) (keepM n) := by
  refine Ev.step (fun k => impl_keepOf_eq k n) (EvL.ev (L := fun k j => impl_keepOf_3 k j n.2.2.2.2.1 (n.2.2.2.2.1.length : Int) 0 0 0 0 0 n.1 n.2.2.1 n.2.2.2.1 n.2.2.2.2.2.2.2.1 n.2.2.2.2.2.1 n.2.2.2.2.2.2.1 [] [] [] []) ?_)
  have e0 : n.2.2.2.2.1.map (·.2.1) = (List.range n.2.2.2.2.1.length).flatMap fun i => [(n.2.2.2.2.1.getD i dLa).2.1] := by
    rw [← flat_range n.2.2.2.2.1 dLa fun x => [x.2.1]]
    induction n.2.2.2.2.1 with
    | nil => rfl
    | cons x r ih => rw [List.map_cons, List.flatMap_cons, ih]; rfl
  have e1 : (n.2.2.2.2.1.map (·.2.1)).length = n.2.2.2.2.1.length := List.length_map _
  unfold keepM
  rw [e0] at e1 ⊢
  refine acc_up (fun i acc => EvL (fun k j => impl_keepOf_3 k j n.2.2.2.2.1 (n.2.2.2.2.1.length : Int) (i : Int) 0 0 0 0 n.1 n.2.2.1 n.2.2.2.1 n.2.2.2.2.2.2.2.1 n.2.2.2.2.2.1 n.2.2.2.2.2.2.1 [] [] [] acc) _) n.2.2.2.2.1.length (fun i => [(n.2.2.2.2.1.getD i dLa).2.1]) [] ?_ fun i hi acc ha hrest => ?_
  · refine EvL.step (M := fun _ _ => some _) (fun k j => ?_) (EvL.now _)
    rw [impl_keepOf_3_eq, decide_eq_false (by omega)]; rfl
  · have ha : acc.length + [(n.2.2.2.2.1.getD i dLa).2.1].length ≤ n.2.2.2.2.1.length := Nat.le_trans ha (by rw [List.nil_append, e1]; exact Nat.le_refl _)
    have c1 : (i : Int) < (n.2.2.2.2.1.length : Int) := by omega
    have c2 : (0 : Int) ≤ (i : Int) := by omega
    refine EvL.step (fun k j => ?_) hrest
    rw [impl_keepOf_3_eq]
    simp only [decide_eq_true c1, decide_eq_true c2, cond_true, Int.toNat_natCast, w64n i (by omega)]
    rw [decide_eq_true (by simp only [List.length_singleton] at ha ⊢; omega), cond_true]
theorem implBlank (x : Kp) (h : x.2.2.2.2.1.length ≤ 1048576) : Ev (fun k => impl_blank k x) (x, false, List.replicate x.2.2.2.2.1.length (dflt t_sl_impl_Past), 0, [], [0, 0, 0], 0, 41) := by
  refine Ev.step (fun k => impl_blank_eq k x) ?_
  have c1 : ((x.2.2.2.2.1.length : Int) ≤ (x.2.2.2.2.1.length : Int)) := Int.le_refl _
  have c2 : (x.2.2.2.2.1.length : Int).toNat * 24 ≤ 140737488351232 := by rw [Int.toNat_natCast]; omega
  rw [decide_eq_true c1, decide_eq_true c2, cond_true, cond_true, Int.toNat_natCast]
  exact Ev.now _
theorem implBody (n : Nd) (hl : n.2.2.2.2.1.length ≤ 1048576) (hv : n.2.2.2.2.2.2.2.2.2.1.length = 3) (hk : n.2.2.2.2.2.2.2.2.2.2.1.length = 3) : Ev (fun k => impl_bodyOf k n) (bodyM n) := by
  have hkl : (keepM n).2.2.2.2.1.length = n.2.2.2.2.1.length := List.length_map _
  refine Ev.step (fun k => impl_bodyOf_eq k n) (Ev.bind (implKeep n hl) (Ev.bind (implBlank (keepM n) (by omega)) ?_))
  rw [hkl]
  have fin : ∀ done : List (List Pa), EvL (fun k j => impl_bodyOf_8 k j n.2.2.2.2.2.2.2.2.2.1 (n.2.2.2.2.2.2.2.2.2.1.length : Int) 0 n (keepM n).1 (keepM n).2.1 (keepM n).2.2.1 (keepM n).2.2.2.1 (keepM n).2.2.2.2.1 (keepM n).2.2.2.2.2.1 (keepM n).2.2.2.2.2.2 false 0 0 41 done [] [0, 0, 0]) ((keepM n, n.2.1, done, n.2.2.2.2.2.2.2.2.1, viewsM n.2.2.2.2.2.2.2.2.2.1, n.2.2.2.2.2.2.2.2.2.2.1, n.2.2.2.2.2.2.2.2.2.2.2.1, n.2.2.2.2.2.2.2.2.2.2.2.2) : Bd) := by
    intro done
    have e0 : viewsM n.2.2.2.2.2.2.2.2.2.1 = (List.range n.2.2.2.2.2.2.2.2.2.1.length).flatMap fun (i : Nat) => [((i : Int), n.2.2.2.2.2.2.2.2.2.1.getD i dVw)] := by
      unfold viewsM
      induction List.range n.2.2.2.2.2.2.2.2.2.1.length with
      | nil => rfl
      | cons x r ih => rw [List.map_cons, List.flatMap_cons, ih]; rfl
    refine (acc_up (fun i acc => (∀ e ∈ acc, e.1 < (i : Int)) → EvL (fun k j => impl_bodyOf_8 k j n.2.2.2.2.2.2.2.2.2.1 (n.2.2.2.2.2.2.2.2.2.1.length : Int) (i : Int) n (keepM n).1 (keepM n).2.1 (keepM n).2.2.1 (keepM n).2.2.2.1 (keepM n).2.2.2.2.1 (keepM n).2.2.2.2.2.1 (keepM n).2.2.2.2.2.2 false 0 0 41 done acc [0, 0, 0]) ((keepM n, n.2.1, done, n.2.2.2.2.2.2.2.2.1, viewsM n.2.2.2.2.2.2.2.2.2.1, n.2.2.2.2.2.2.2.2.2.2.1, n.2.2.2.2.2.2.2.2.2.2.2.1, n.2.2.2.2.2.2.2.2.2.2.2.2) : Bd)) n.2.2.2.2.2.2.2.2.2.1.length (fun (i : Nat) => [((i : Int), n.2.2.2.2.2.2.2.2.2.1.getD i dVw)]) [] ?_ fun i hi acc ha hrest hlt => ?_) (fun e he => by cases he)
    · intro _
      rw [List.nil_append, ← e0]
      refine EvL.step (M := fun _ _ => some _) (fun k j => ?_) (EvL.now _)
      rw [impl_bodyOf_8_eq, decide_eq_false (by omega), cond_false]
      have : cpyL ([0, 0, 0] : List Int) n.2.2.2.2.2.2.2.2.2.2.1 = n.2.2.2.2.2.2.2.2.2.2.1 := by
        unfold cpyL
        rw [hk, List.take_of_length_le (by rw [hk]; exact Nat.le_refl _)]
        simp
      rw [this]
    · have c1 : (i : Int) < (n.2.2.2.2.2.2.2.2.2.1.length : Int) := by omega
      have c2 : (0 : Int) ≤ (i : Int) := by omega
      have hr := hrest fun e he => by
        rcases List.mem_append.1 he with he | he
        · have := hlt e he; omega
        · rw [List.mem_singleton.1 he]; omega
      refine EvL.step (fun k j => ?_) hr
      rw [impl_bodyOf_8_eq]
      simp only [decide_eq_true c1, decide_eq_true c2, cond_true, Int.toNat_natCast, w64n i (by omega), wfS i (by omega)]
      rw [mqput_at acc (i : Int) _ fun e he => by have := hlt e he; omega]
  refine EvL.ev (L := fun k j => impl_bodyOf_3 k j n.2.2.2.2.1 (n.2.2.2.2.1.length : Int) 0 n (keepM n).1 (keepM n).2.1 (keepM n).2.2.1 (keepM n).2.2.2.1 (keepM n).2.2.2.2.1 (keepM n).2.2.2.2.2.1 (keepM n).2.2.2.2.2.2 false 0 0 41 (List.replicate n.2.2.2.2.1.length (dflt t_sl_impl_Past)) [] [0, 0, 0]) ?_
  have hdl : (doneM n).length = n.2.2.2.2.1.length := List.length_map _
  have ez : cpart (doneM n) (dflt t_sl_impl_Past) 0 = List.replicate n.2.2.2.2.1.length (dflt t_sl_impl_Past) := by rw [← hdl]; exact cpart_zero _ _
  have ee : cpart (doneM n) (dflt t_sl_impl_Past) n.2.2.2.2.1.length = doneM n := by rw [← hdl]; exact cpart_end _ _
  have key := loop_up (fun k j i => impl_bodyOf_3 k j n.2.2.2.2.1 (n.2.2.2.2.1.length : Int) (i : Int) n (keepM n).1 (keepM n).2.1 (keepM n).2.2.1 (keepM n).2.2.2.1 (keepM n).2.2.2.2.1 (keepM n).2.2.2.2.2.1 (keepM n).2.2.2.2.2.2 false 0 0 41 (cpart (doneM n) (dflt t_sl_impl_Past) i) [] [0, 0, 0]) n.2.2.2.2.1.length (fun _ => bodyM n) ?_ (fun i hi hrest => ?_) 0 (Nat.zero_le _)
  · have key : EvL (fun k j => impl_bodyOf_3 k j n.2.2.2.2.1 (n.2.2.2.2.1.length : Int) 0 n (keepM n).1 (keepM n).2.1 (keepM n).2.2.1 (keepM n).2.2.2.1 (keepM n).2.2.2.2.1 (keepM n).2.2.2.2.2.1 (keepM n).2.2.2.2.2.2 false 0 0 41 (cpart (doneM n) (dflt t_sl_impl_Past) 0) [] [0, 0, 0]) (bodyM n) := key
    rw [ez] at key
    exact key
  · refine EvL.step (M := fun k _ => impl_bodyOf_8 k k n.2.2.2.2.2.2.2.2.2.1 (n.2.2.2.2.2.2.2.2.2.1.length : Int) 0 n (keepM n).1 (keepM n).2.1 (keepM n).2.2.1 (keepM n).2.2.2.1 (keepM n).2.2.2.2.1 (keepM n).2.2.2.2.2.1 (keepM n).2.2.2.2.2.2 false 0 0 41 (doneM n) [] [0, 0, 0]) (fun k j => ?_) (Ev.L (EvL.ev (L := fun k j => impl_bodyOf_8 k j n.2.2.2.2.2.2.2.2.2.1 (n.2.2.2.2.2.2.2.2.2.1.length : Int) 0 n (keepM n).1 (keepM n).2.1 (keepM n).2.2.1 (keepM n).2.2.2.1 (keepM n).2.2.2.2.1 (keepM n).2.2.2.2.2.1 (keepM n).2.2.2.2.2.2 false 0 0 41 (doneM n) [] [0, 0, 0]) (fin (doneM n))))
    rw [impl_bodyOf_3_eq, decide_eq_false (by omega), cond_false, ee]
  · have c1 : (i : Int) < (n.2.2.2.2.1.length : Int) := by omega
    have c2 : (0 : Int) ≤ (i : Int) := by omega
    have hcl := cpart_length (doneM n) (dflt t_sl_impl_Past) i (by omega)
    have c3 : (i : Int) < ((cpart (doneM n) (dflt t_sl_impl_Past) i).length : Int) := by omega
    have c4 : i < (cpart (doneM n) (dflt t_sl_impl_Past) i).length := by omega
    refine EvL.step (fun k j => ?_) hrest
    rw [impl_bodyOf_3_eq]
    simp only [decide_eq_true c1, decide_eq_true c2, decide_eq_true c3, cond_true, Int.toNat_natCast, decide_eq_true c4, w64n i (by omega)]
    have e3 : (n.2.2.2.2.1.getD i (dflt t_impl_Lane)).2.2 = (doneM n).getD i (dflt t_sl_impl_Past) := (done_at n i hi).symm
    have es : (cpart (doneM n) (dflt t_sl_impl_Past) i).set i ((doneM n).getD i (dflt t_sl_impl_Past)) = cpart (doneM n) (dflt t_sl_impl_Past) (i + 1) := cpart_set _ _ _ _ (by omega)
    rw [e3, es]
theorem implWant (e : Ev7) (proc : Int) (b : Bd) : Ev (fun k => impl_body_came_1_h0 k e proc b) (toP proc b.1.2.2.1 e, (proc, ()), ((b, ()), ())) := by
  refine Ev.step (fun k => impl_body_came_1_h0_eq k e proc b) (Ev.cond (fun h => (Ev.now _).to ?_) fun h => (Ev.now _).to ?_)
  · unfold toP; rw [h]; rfl
  · unfold toP; rw [h]; rfl
theorem implPick (l : List Ev7) (hl : l.length ≤ 1048576) (proc : Int) (b : Bd) : Ev (fun k => impl_pick_impl_Event_h0 k l proc b) (l.filter (toP proc b.1.2.2.1), (proc, ()), ((b, ()), ())) := by
  refine Ev.step (fun k => impl_pick_impl_Event_h0_eq k l proc b) (EvL.ev (L := fun k j => impl_pick_impl_Event_h0_3 k j l (l.length : Int) 0 proc b []) ?_)
  have hf := filter_range l dE7 (toP proc b.1.2.2.1)
  have hfl : (l.filter (toP proc b.1.2.2.1)).length ≤ l.length := List.length_filter_le _ _
  refine acc_up (fun i acc => EvL (fun k j => impl_pick_impl_Event_h0_3 k j l (l.length : Int) (i : Int) proc b acc) _) l.length (fun (i : Nat) => if toP proc b.1.2.2.1 (l.getD i dE7) = true then [l.getD i dE7] else []) [] ?_ fun i hi acc ha hrest => ?_
  · rw [List.nil_append, ← hf]
    refine EvL.step (M := fun _ _ => some _) (fun k j => ?_) (EvL.now _)
    rw [impl_pick_impl_Event_h0_3_eq, decide_eq_false (by omega)]; rfl
  · rw [List.nil_append, ← hf] at ha
    have c1 : (i : Int) < (l.length : Int) := by omega
    have c2 : (0 : Int) ≤ (i : Int) := by omega
    refine EvL.step (fun k j => impl_pick_impl_Event_h0_3_eq k j l _ _ proc b _) ?_
    simp only [decide_eq_true c1, decide_eq_true c2, cond_true, Int.toNat_natCast, w64n i (by omega)]
    refine EvL.bind (implWant _ proc b) (EvL.cond (fun hb => ?_) fun hb => ?_)
    · have hb : toP proc b.1.2.2.1 (l.getD i dE7) = true := hb
      rw [if_pos hb] at hrest ha
      have c5 : (acc.length + [((l.getD i dE7).1, (l.getD i dE7).2.1, (l.getD i dE7).2.2.1, (l.getD i dE7).2.2.2.1, (l.getD i dE7).2.2.2.2.1, (l.getD i dE7).2.2.2.2.2.1, (l.getD i dE7).2.2.2.2.2.2)].length) * 56 ≤ 140737488351232 := by simp only [List.length_singleton] at ha ⊢; omega
      simp only [decide_eq_true c5, cond_true]
      exact hrest
    · have hb : toP proc b.1.2.2.1 (l.getD i dE7) = false := hb
      rw [if_neg (by rw [hb]; simp), List.append_nil] at hrest
      exact hrest
theorem implCome (n : Nd) (h : Fair n) (proc : Int) : Ev (fun k => impl_body_came_h0 k (bodyM n) proc) (comeM n proc) := by
  have hall := h.all
  have hs : (sentM n.2.2.2.2.2.1 (doneM n)).length ≤ 1048576 := by rw [List.length_append] at hall; omega
  have hdl : (doneM n).length = n.2.2.2.2.1.length := List.length_map _
  refine Ev.step (fun k => impl_body_came_h0_eq k (bodyM n) proc) (Ev.bind (implSent (bodyM n) hs (by show (doneM n).length ≤ _; rw [hdl]; exact h.lanes) (fun x hx => ?_)) ?_)
  · obtain ⟨l, hl, rfl⟩ := List.mem_map.1 (show x ∈ doneM n from hx)
    exact h.done l hl
  refine EvL.ev (L := fun k j => impl_body_came_h0_3 k j 0 (bodyM n) proc (sentM n.2.2.2.2.2.1 (doneM n))) ?_
  have hv := h.views
  refine acc_up (fun i acc => EvL (fun k j => impl_body_came_h0_3 k j (i : Int) (bodyM n) proc acc) (comeM n proc)) n.2.2.2.2.2.2.2.2.2.1.length (otherAt n.1 n.2.2.2.2.2.2.2.2.2.1) (sentM n.2.2.2.2.2.1 (doneM n)) ?_ fun i hi acc ha hrest => ?_
  · rw [← other_eq, come_eq]
    have hwf := h.wf
    revert hall hwf
    generalize sentM n.2.2.2.2.2.1 (doneM n) ++ otherM n.1 n.2.2.2.2.2.2.2.2.2.1 = A
    intro hall hwf
    have hfl : (A.filter (toP proc n.2.2.2.1)).length ≤ A.length := List.length_filter_le _ _
    have key : Ev (fun k => (impl_pick_impl_Event_h0 k A proc (bodyM n)).bind fun x0 => (impl_EventSort k x0.1).bind fun x1 => some x1) (sortM (A.filter (toP proc n.2.2.2.1))) :=
      Ev.bind (implPick A hall proc (bodyM n)) (Ev.bind (sorts (A.filter (toP proc n.2.2.2.1)) (by omega) fun x hx => hwf x (List.mem_filter.1 hx).1).2.1 (Ev.now _))
    refine EvL.step (fun k j => ?_) (Ev.L key)
    rw [impl_body_came_h0_3_eq, decide_eq_false (by omega), cond_false]
  · rw [← other_eq] at ha
    have ha := Nat.le_trans ha hall
    unfold otherAt at ha hrest
    have hvg : mqget (bodyM n).2.2.2.2.1 (i : Int) (dflt t_impl_View) = n.2.2.2.2.2.2.2.2.2.1.getD i dVw := viewsM_get _ i hi _
    have hw := w64n i (Nat.lt_of_lt_of_le hi (by rw [hv]; decide))
    have hwf := wfS i (by omega)
    have c0 : (i : Int) < 3 := by omega
    have hid : (bodyM n).1.1 = n.1 := rfl
    cases hb : ((i : Int) != n.1) with
    | true =>
      rw [hb, if_pos rfl] at hrest ha
      have c5 : (acc.length + (n.2.2.2.2.2.2.2.2.2.1.getD i dVw).2.2.length) * 56 ≤ 140737488351232 := by omega
      refine EvL.step (fun k j => ?_) hrest
      rw [impl_body_came_h0_3_eq, decide_eq_true c0, cond_true, hid, hb, cond_true, hwf, cond_true, hvg, decide_eq_true c5, cond_true, hw]
    | false =>
      rw [hb, if_neg (by simp), List.append_nil] at hrest
      refine EvL.step (fun k j => ?_) hrest
      rw [impl_body_came_h0_3_eq, decide_eq_true c0, cond_true, hid, hb, cond_false, hw]
end Go.Proofs.YtjhldhlmckbapaaGreat.SFnExactHubOuts
