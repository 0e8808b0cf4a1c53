/- What may be let out: the reference's HubOuts and the program's are one plain function. -/
import Derived.Test.YtjhldhlmckbapaaGreatHubPlFnExactHubOuts
import Derived.Test.YtjhldhlmckbapaaGreatOkNdPlFnExactHubOuts
import Derived.Test.YtjhldhlmckbapaaGreatSortPlFnExactHubOuts
set_option linter.unusedVariables false
set_option linter.unusedSimpArgs false
namespace Go.Proofs.YtjhldhlmckbapaaGreat.SFnExactHubOuts
open Go Go.Sx Go.Pl

abbrev dW : Wo := dflt t_impl_Word
theorem sortsO (l : List Ou5) : ∃ s : List Ou5, l.length ≤ 1048576 → Ev (fun k => spec_OutSort k l) s ∧ Ev (fun k => impl_OutSort k l) s ∧ s.Perm l := by
  by_cases h : l.length ≤ 1048576
  · obtain ⟨s, h1, h2, h3, _⟩ := outSorts l h
    exact ⟨s, fun _ => ⟨h1, h2, h3⟩⟩
  · exact ⟨[], fun h' => absurd h' h⟩
noncomputable def sortO (l : List Ou5) : List Ou5 := Classical.choose (sortsO l)
theorem sortO_ok (l : List Ou5) (h : l.length ≤ 1048576) : Ev (fun k => spec_OutSort k l) (sortO l) ∧ Ev (fun k => impl_OutSort k l) (sortO l) ∧ (sortO l).Perm l := Classical.choose_spec (sortsO l) h
def early (g : Int) (o : Ou5) : Bool := decide (o.1 < g)
noncomputable def letM (g : Int) (A : List Ou5) : List Ou5 := sortO (A.filter (early g))
theorem letM_len (g : Int) (A : List Ou5) (h : A.length ≤ 1048576) : (letM g A).length ≤ 1048576 := by
  have hfl : (A.filter (early g)).length ≤ A.length := List.length_filter_le _ _
  unfold letM
  rw [(sortO_ok _ (by omega)).2.2.length_eq]
  omega
theorem specOuts14 (g : Int) (A : List Ou5) (hall : A.length ≤ 1048576) : EvL (fun k j => spec_HubOuts_14 k j g 0 A []) (letM g A) := by
  have hf := filter_range A dO (early g)
  have hfl : (A.filter (early g)).length ≤ A.length := List.length_filter_le _ _
  refine acc_up (fun i acc => EvL (fun k j => spec_HubOuts_14 k j g (i : Int) A acc) (letM g A)) A.length (fun i => if early g (A.getD i dO) = true then [A.getD i dO] else []) [] ?_ fun i hi acc ha hrest => ?_
  · rw [List.nil_append, ← hf]
    refine EvL.step (fun k j => spec_HubOuts_14_eq k j g _ A _) ?_
    have cn : ¬ ((A.length : Int) < (A.length : Int)) := by omega
    simp only [decide_eq_false cn, cond_false]
    exact Ev.L (Ev.bind (sortO_ok _ (by omega)).1 (Ev.now _))
  · rw [List.nil_append, ← hf] at ha
    have c1 : (i : Int) < (A.length : Int) := by omega
    have c2 : (0 : Int) ≤ (i : Int) := by omega
    refine EvL.step (fun k j => spec_HubOuts_14_eq k j g _ A _) ?_
    simp only [decide_eq_true c1, decide_eq_true c2, cond_true, Int.toNat_natCast, decide_eq_true hi, w64n i (by omega)]
    by_cases ht : early g (A.getD i dO) = true
    · rw [if_pos ht] at hrest ha
      have h8 : decide ((A.getD i (dflt t_impl_Out)).1 < g) = true := ht
      have c5 : (acc.length + [((A.getD i dO).1, (A.getD i dO).2.1, (A.getD i dO).2.2.1, (A.getD i dO).2.2.2.1, (A.getD i dO).2.2.2.2)].length) * 40 ≤ 140737488351232 := by simp only [List.length_singleton] at ha ⊢; omega
      simp only [h8, cond_true, decide_eq_true c5]
      exact hrest
    · rw [if_neg ht, List.append_nil] at hrest
      have h8 : decide ((A.getD i (dflt t_impl_Out)).1 < g) = false := by
        have h9 : ¬ decide ((A.getD i (dflt t_impl_Out)).1 < g) = true := ht
        simpa using h9
      simp only [h8, cond_false]; exact hrest
theorem implEarly (o : Ou5) (g : Int) : Ev (fun k => impl_HubOuts_1_h0 k o g) (early g o, (g, ()), ()) := Ev.of 1 fun m => impl_HubOuts_1_h0_eq m o g
theorem implPickO (l : List Ou5) (hl : l.length ≤ 1048576) (g : Int) : Ev (fun k => impl_pick_impl_Out_h0 k l g) (l.filter (early g), (g, ()), ()) := by
  refine Ev.step (fun k => impl_pick_impl_Out_h0_eq k l g) (EvL.ev (L := fun k j => impl_pick_impl_Out_h0_3 k j l (l.length : Int) 0 g []) ?_)
  have hf := filter_range l dO (early g)
  have hfl : (l.filter (early g)).length ≤ l.length := List.length_filter_le _ _
  refine acc_up (fun i acc => EvL (fun k j => impl_pick_impl_Out_h0_3 k j l (l.length : Int) (i : Int) g acc) _) l.length (fun (i : Nat) => if early g (l.getD i dO) = true then [l.getD i dO] else []) [] ?_ fun i hi acc ha hrest => ?_
  · rw [List.nil_append, ← hf]
    refine EvL.step (M := fun _ _ => some _) (fun k j => ?_) (EvL.now _)
    rw [impl_pick_impl_Out_h0_3_eq, decide_eq_false (by omega)]; rfl
  · rw [List.nil_append, ← hf] at ha
    have c1 : (i : Int) < (l.length : Int) := by omega
    have c2 : (0 : Int) ≤ (i : Int) := by omega
    refine EvL.step (fun k j => impl_pick_impl_Out_h0_3_eq k j l _ _ g _) ?_
    simp only [decide_eq_true c1, decide_eq_true c2, cond_true, Int.toNat_natCast, w64n i (by omega)]
    refine EvL.bind (implEarly _ g) (EvL.cond (fun hb => ?_) fun hb => ?_)
    · have hb : early g (l.getD i dO) = true := hb
      rw [if_pos hb] at hrest ha
      have c5 : (acc.length + [((l.getD i dO).1, (l.getD i dO).2.1, (l.getD i dO).2.2.1, (l.getD i dO).2.2.2.1, (l.getD i dO).2.2.2.2)].length) * 40 ≤ 140737488351232 := by simp only [List.length_singleton] at ha ⊢; omega
      simp only [decide_eq_true c5, cond_true]
      exact hrest
    · have hb : early g (l.getD i dO) = false := hb
      rw [if_neg (by rw [hb]; simp), List.append_nil] at hrest
      exact hrest
def outAt (ws : List Wo) (i : Nat) : List Ou5 := (ws.getD i dW).2.2.2.2.2.2.2.2.2.2
def leastW (ws : List Wo) : Nat → Nat → Int → Int
  | 0, _, g => g
  | c + 1, i, g => leastW ws c (i + 1) (imin g (ws.getD i dW).2.2.2.2.2.2.1)
theorem specOuts7 (h : Hu) (hl : h.2.2.2.length ≤ 1048576) : ∀ (m i : Nat) (g : Int) (acc : List Ou5), i + m = h.2.2.2.length → acc.length + ((List.range' i m).flatMap (outAt h.2.2.2)).length ≤ 1048576 →
    EvL (fun k j => spec_HubOuts_7 k j g (i : Int) h acc) (letM (leastW h.2.2.2 m i g) (acc ++ (List.range' i m).flatMap (outAt h.2.2.2))) := by
  intro m
  induction m with
  | zero =>
    intro i g acc hi hb
    have hb' : acc.length ≤ 1048576 := by simpa using hb
    refine EvL.step (M := fun k _ => spec_HubOuts_14 k k g 0 acc []) (fun k j => ?_) ((Ev.L (EvL.ev (L := fun k j => spec_HubOuts_14 k j g 0 acc []) (specOuts14 g acc hb'))).to (by simp [leastW]))
    rw [spec_HubOuts_7_eq, decide_eq_false (by omega), cond_false]
  | succ m ihm =>
    intro i g acc hi hb
    rw [List.range'_succ, List.flatMap_cons, List.length_append] at hb
    have ih := ihm (i + 1) (imin g (h.2.2.2.getD i dW).2.2.2.2.2.2.1) (acc ++ outAt h.2.2.2 i) (by omega) (by rw [List.length_append]; omega)
    rw [List.append_assoc] at ih
    have c1 : (i : Int) < (h.2.2.2.length : Int) := by omega
    have c2 : (0 : Int) ≤ (i : Int) := by omega
    have c5 : (acc.length + (outAt h.2.2.2 i).length) * 40 ≤ 140737488351232 := by omega
    have c6 : (acc.length + List.length (h.2.2.2.getD i (dflt t_impl_Word)).2.2.2.2.2.2.2.2.2.2) * 40 ≤ 140737488351232 := c5
    rw [List.range'_succ, List.flatMap_cons]
    have el : leastW h.2.2.2 (m + 1) i g = leastW h.2.2.2 m (i + 1) (imin g (h.2.2.2.getD i dW).2.2.2.2.2.2.1) := rfl
    rw [el]
    have st : ∀ k j, spec_HubOuts_7 k (j + 1) g (i : Int) h acc = spec_HubOuts_7 k j (imin g (h.2.2.2.getD i dW).2.2.2.2.2.2.1) ((i + 1 : Nat) : Int) h (acc ++ outAt h.2.2.2 i) := fun k j => by
      rw [spec_HubOuts_7_eq, decide_eq_true c1, cond_true, decide_eq_true c2, cond_true, cond_true, cond_true, cond_true, cond_true, cond_true, Int.toNat_natCast, decide_eq_true c6, cond_true, cond_true, w64n i (by omega)]
      unfold imin
      cases hc : decide ((h.2.2.2.getD i (dflt t_impl_Word)).2.2.2.2.2.2.1 < g) with
      | true => exact cond_true _ _
      | false =>
        rw [cond_false, cond_true, cond_true]
        exact congrArg (fun q => spec_HubOuts_7 k j q ((i + 1 : Nat) : Int) h (acc ++ outAt h.2.2.2 i)) (cond_false _ _).symm
    exact EvL.step st ih
theorem implOuts6 (ws : List Wo) : ∀ (m i : Nat) (g : Int) (acc : List Ou5), i + m = ws.length → ws.length ≤ 1048576 → acc.length + ((List.range' i m).flatMap (outAt ws)).length ≤ 1048576 →
    EvL (fun k j => impl_HubOuts_6 k j ws (ws.length : Int) (i : Int) g acc) (letM (leastW ws m i g) (acc ++ (List.range' i m).flatMap (outAt ws)))
  | 0, i, g, acc, hi, hl, hb => by
    have hb' : acc.length ≤ 1048576 := by simpa using hb
    have hfl : (acc.filter (early g)).length ≤ acc.length := List.length_filter_le _ _
    have key : Ev (fun k => (impl_pick_impl_Out_h0 k acc g).bind fun x0 => (impl_OutSort k x0.1).bind fun x1 => some x1) (letM g acc) :=
      Ev.bind (implPickO acc hb' g) (Ev.bind (sortO_ok (acc.filter (early g)) (by omega)).2.1 (Ev.now _))
    refine EvL.step (fun k j => ?_) ((Ev.L key).to (by simp [leastW]))
    rw [impl_HubOuts_6_eq, decide_eq_false (by omega), cond_false]
  | m + 1, i, g, acc, hi, hl, hb => by
    rw [List.range'_succ, List.flatMap_cons, List.length_append] at hb
    have ih := implOuts6 ws m (i + 1) (imin g (ws.getD i dW).2.2.2.2.2.2.1) (acc ++ outAt ws i) (by omega) hl (by rw [List.length_append]; omega)
    rw [List.append_assoc] at ih
    have c1 : (i : Int) < (ws.length : Int) := by omega
    have c2 : (0 : Int) ≤ (i : Int) := by omega
    have c5 : (acc.length + (outAt ws i).length) * 40 ≤ 140737488351232 := by omega
    have c6 : (acc.length + List.length (ws.getD i (dflt t_impl_Word)).2.2.2.2.2.2.2.2.2.2) * 40 ≤ 140737488351232 := c5
    rw [List.range'_succ, List.flatMap_cons]
    refine EvL.step (fun k j => ?_) ih
    rw [impl_HubOuts_6_eq, decide_eq_true c1, decide_eq_true c2, cond_true, cond_true, cond_true, Int.toNat_natCast, decide_eq_true c6, cond_true, w64n i (by omega)]
    rfl
noncomputable def hubOutsM (h : Hu) (n : Nd) : List Ou5 := if hubM h = true then (if nodeM n = true then (if n.1 = 0 then (if h.2.2.2.length = 2 then letM (leastW h.2.2.2 2 0 n.2.2.2.1) (n.2.2.2.2.2.2.1 ++ (List.range' 0 2).flatMap (outAt h.2.2.2)) else []) else []) else []) else []
theorem outs_few (h : Hu) (n : Nd) (hh : hubM h = true) (hn : nodeM n = true) (h2 : h.2.2.2.length = 2) : n.2.2.2.2.2.2.1.length ≤ 96 ∧ n.2.2.2.2.2.2.1.length + ((List.range' 0 2).flatMap (outAt h.2.2.2)).length ≤ 1048576 := by
  unfold nodeM okTail at hn
  simp only [Bool.and_eq_true, decide_eq_true_eq] at hn
  obtain ⟨_, _, _, _, _, ho, _⟩ := hn
  unfold outsM at ho
  simp only [Bool.and_eq_true, decide_eq_true_eq] at ho
  have ho := ho.1
  unfold hubM keptM wordsM at hh
  simp only [Bool.and_eq_true] at hh
  have hw := listM_all hh.2.2.2.1
  have each : ∀ i, i < 2 → (outAt h.2.2.2 i).length ≤ 96 := fun i hi => by
    have := hw _ (getD_mem h.2.2.2 dW i (by omega))
    simp only [Bool.and_eq_true] at this
    have hx := this.1
    unfold wordM outsM at hx
    simp only [Bool.and_eq_true, decide_eq_true_eq] at hx
    have hx := hx.2.2.2.2.2.2.2.2.2.2.1
    unfold outAt
    omega
  have e0 := each 0 (by decide)
  have e1 := each 1 (by decide)
  have hr : List.range' 0 2 = [0, 1] := rfl
  rw [hr]
  simp only [List.flatMap_cons, List.flatMap_nil, List.length_append, List.length_nil]
  omega
theorem hubOutsM_len (h : Hu) (n : Nd) : (hubOutsM h n).length ≤ 1048576 := by
  unfold hubOutsM
  split
  · rename_i hh
    split
    · rename_i hn
      split
      · split
        · rename_i h2
          exact letM_len _ _ (by rw [List.length_append]; exact (outs_few h n hh hn h2).2)
        · simp
      · simp
    · simp
  · simp
theorem ne2 (m : Nat) : (((m : Nat) : Int) != 2) = !(decide (m = 2)) := by
  by_cases h : m = 2
  · subst h; rfl
  · have : ((m : Int) != 2) = true := bne_iff_ne.2 (by omega)
    rw [this, decide_eq_false h]; rfl
theorem specHubOuts (h : Hu) (n : Nd) (hs : SmallHu h) (hsn : SmallNd n) : Ev (fun k => spec_HubOuts k h n) (hubOutsM h n) := by
  unfold hubOutsM
  refine Ev.step (fun k => spec_HubOuts_eq k h n) (Ev.bind (specHub h hs) (Ev.cond (fun h0 => (Ev.now _).to ?_) fun h0 => ?_))
  · rw [if_neg (by rw [nt h0]; simp)]
  rw [if_pos (nf h0)]
  refine Ev.bind (specNd n hsn) (Ev.cond (fun h1 => (Ev.now _).to ?_) fun h1 => ?_)
  · rw [if_neg (by rw [nt h1]; simp)]
  rw [if_pos (nf h1)]
  refine Ev.cond (fun h2 => (Ev.now _).to ?_) fun h2 => ?_
  · rw [if_neg (by simpa using h2)]
  rw [if_pos (by simpa using h2), ne2]
  refine Ev.cond (fun h3 => (Ev.now _).to ?_) fun h3 => ?_
  · rw [if_neg (by simpa using h3)]
  have h3 : h.2.2.2.length = 2 := by simpa using h3
  rw [if_pos h3]
  obtain ⟨q1, q2⟩ := outs_few h n (nf h0) (nf h1) h3
  have c : (0 + n.2.2.2.2.2.2.1.length) * 40 ≤ 140737488351232 := by omega
  rw [decide_eq_true c]
  exact Ev.congr (fun k => cond_true _ _) (EvL.ev (L := fun k j => spec_HubOuts_7 k j n.2.2.2.1 0 h ([] ++ n.2.2.2.2.2.2.1)) (specOuts7 h (by omega) 2 0 _ _ (by omega) q2))
theorem implHubOuts (h : Hu) (n : Nd) (hs : SmallHu h) (hsn : SmallNd n) : Ev (fun k => impl_HubOuts k h n) (hubOutsM h n) := by
  unfold hubOutsM
  refine Ev.step (fun k => impl_HubOuts_eq k h n) (Ev.bind (implHub h hs) (Ev.cond (fun h0 => (Ev.now _).to ?_) fun h0 => ?_))
  · rw [if_neg (by rw [nt h0]; simp)]
  rw [if_pos (nf h0)]
  refine Ev.bind (implNd n hsn) (Ev.cond (fun h1 => (Ev.now _).to ?_) fun h1 => ?_)
  · rw [if_neg (by rw [nt h1]; simp)]
  rw [if_pos (nf h1)]
  refine Ev.cond (fun h2 => (Ev.now _).to ?_) fun h2 => ?_
  · rw [if_neg (by simpa using h2)]
  rw [if_pos (by simpa using h2), ne2]
  refine Ev.cond (fun h3 => (Ev.now _).to ?_) fun h3 => ?_
  · rw [if_neg (by simpa using h3)]
  have h3 : h.2.2.2.length = 2 := by simpa using h3
  rw [if_pos h3]
  obtain ⟨q1, q2⟩ := outs_few h n (nf h0) (nf h1) h3
  have c : (0 + n.2.2.2.2.2.2.1.length) * 40 ≤ 140737488351232 := by omega
  have cl : Ev (fun k => slices_Clone_impl_Out_impl_Out k n.2.2.2.2.2.2.1) n.2.2.2.2.2.2.1 := Ev.of 1 fun m => by rw [slices_Clone_impl_Out_impl_Out_eq, decide_eq_true c]; rfl
  exact Ev.bind cl (EvL.ev (L := fun k j => impl_HubOuts_6 k j h.2.2.2 (h.2.2.2.length : Int) 0 n.2.2.2.1 n.2.2.2.2.2.2.1) (implOuts6 h.2.2.2 2 0 _ _ (by omega) (by omega) q2))
end Go.Proofs.YtjhldhlmckbapaaGreat.SFnExactHubOuts
