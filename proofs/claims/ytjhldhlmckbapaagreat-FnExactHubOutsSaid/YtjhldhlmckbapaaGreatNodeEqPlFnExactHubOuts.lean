/- Whether a node is ok: the reference's NodeOk and the program's are one plain function (the end). -/
import Derived.Test.YtjhldhlmckbapaaGreatNodeOkPlFnExactHubOuts
set_option linter.unusedVariables false
set_option linter.unusedSimpArgs false
namespace Go.Proofs.YtjhldhlmckbapaaGreat.SFnExactHubOuts
open Go Go.Sx Go.Pl

theorem len_ne' (a b : Nat) : ((a : Int) != (b : Int)) = !decide (a = b) := by by_cases h : a = b <;> simp [h]; omega
theorem all_true {n : Nat} {p : Nat → Bool} (h : (List.range n).all p = true) : ∀ i, i < n → p i = true := fun i hi => List.all_eq_true.1 h i (List.mem_range.2 hi)
theorem forms_parts {n : Nd} (h : okForms n = true) : n.2.2.2.2.2.2.2.2.2.1.length = 3 ∧ n.2.2.2.2.2.2.2.2.2.2.1.length = 3 ∧ ∀ i, i < 3 → formAt n i = true := by
  unfold okForms at h
  simp only [Bool.and_eq_true, decide_eq_true_eq] at h
  exact ⟨h.1, h.2.1, all_true h.2.2.2.2.2.1⟩
theorem come_len (n : Nd) (h : Fair n) (proc : Int) : (comeM n proc).length ≤ 1048576 := by
  have hall := h.all
  have hfl : ((sentM n.2.2.2.2.2.1 (doneM n) ++ otherM n.1 n.2.2.2.2.2.2.2.2.2.1).filter (toP proc n.2.2.2.1)).length ≤ _ := List.length_filter_le _ _
  have := (sorts ((sentM n.2.2.2.2.2.1 (doneM n) ++ otherM n.1 n.2.2.2.2.2.2.2.2.2.1).filter (toP proc n.2.2.2.1)) (by omega) fun x hx => h.wf x (List.mem_filter.1 hx).1).2.2.1
  unfold comeM
  omega
theorem specTail (n : Nd) (hs : SmallNd n) (hk : eventsM n.2.2.2.2.2.1 100 = true) (hv : n.2.2.2.2.2.2.2.2.2.1.length = 3) (hf : ∀ i, i < 3 → formAt n i = true) :
    Ev (fun k => (spec_l22Lanes k n.1).bind fun x10 => cond ((n.2.2.2.2.1.length : Int) != (x10.length : Int)) (some false) (spec_NodeOk_9 k k 0 n x10)) (okTail n) := by
  have hll : (lanesM n.1).length = (procsM n.1).length := List.length_map _
  have hp := procs_le n.1
  refine Ev.bind (specLanes n.1) ?_
  rw [len_ne', hll]
  refine (Ev.andn fun hl => EvL.ev (L := fun k j => spec_NodeOk_9 k j 0 n (lanesM n.1)) (r := (List.range (procsM n.1).length).all (laneAt n) && ((List.range (procsM n.1).length).all (agreeAt n) && true)) ?_).to (by unfold okTail; rw [Bool.not_not])
  have hl : n.2.2.2.2.1.length = (procsM n.1).length := by simpa using hl
  have want : ∀ i, i < (procsM n.1).length → ((lanesM n.1).getD i (dflt t_impl_Lane)).1 = (procsM n.1).getD i (dflt t_int) := fun i hi => by
    have : (lanesM n.1).getD i (dflt t_impl_Lane) = ((procsM n.1).getD i (dflt t_int), ((0, 0, 0) : St3), ([] : List Pa)) := map_getD _ _ _ hi _ _
    rw [this]
  refine ask_then (fun k j i => spec_NodeOk_9 k j (i : Int) n (lanesM n.1)) (procsM n.1).length (laneAt n) _ (fun ha => ?_) fun i hi rest hrest => ?_
  · have F := fair n hk hv hf hl ha
    refine EvL.step (M := fun k _ => spec_NodeOk_14 k k 0 n (lanesM n.1)) (fun k j => ?_) (Ev.L (EvL.ev (L := fun k j => spec_NodeOk_14 k j 0 n (lanesM n.1)) ?_))
    · rw [spec_NodeOk_9_eq, decide_eq_false (by omega), cond_false]
    refine ask_then (fun k j i => spec_NodeOk_14 k j (i : Int) n (lanesM n.1)) (procsM n.1).length (agreeAt n) true (fun _ => ?_) fun i hi rest hrest => ?_
    · refine EvL.step (M := fun _ _ => some true) (fun k j => ?_) (EvL.now _)
      rw [spec_NodeOk_14_eq, decide_eq_false (by omega)]; rfl
    · have c0 : (i : Int) < ((lanesM n.1).length : Int) := by omega
      have c1 : (0 : Int) ≤ (i : Int) := by omega
      have c2 : (i : Int) < (n.2.2.2.2.1.length : Int) := by omega
      have c3 : i < (lanesM n.1).length := by omega
      have hx := hs.lane _ (getD_mem n.2.2.2.2.1 dLa i (by omega))
      refine EvL.step (fun k j => spec_NodeOk_14_eq k j _ n (lanesM n.1)) ?_
      simp only [decide_eq_true c0, decide_eq_true c1, decide_eq_true c2, decide_eq_true c3, cond_true, Int.toNat_natCast, w64n i (by omega), want i hi]
      refine EvL.bind (specCome n F _) (EvL.bind (specSame _ _ hx (come_len n F _)) ?_)
      unfold agreeAt at hrest ⊢
      have e1 : decide ((sameM (n.2.2.2.2.1.getD i dLa).2.2 (comeM n ((procsM n.1).getD i (dflt t_int))) : Int) < ((n.2.2.2.2.1.getD i dLa).2.2.length : Int)) = decide (sameM (n.2.2.2.2.1.getD i dLa).2.2 (comeM n ((procsM n.1).getD i (dflt t_int))) < (n.2.2.2.2.1.getD i dLa).2.2.length) := by congr 1; exact propext (by omega)
      have e2 : decide (((comeM n ((procsM n.1).getD i (dflt t_int))).length : Int) > 100) = decide ((comeM n ((procsM n.1).getD i (dflt t_int))).length > 100) := by congr 1; exact propext (by omega)
      rw [Bool.and_assoc]
      rw [e1]
      refine EvL.andn fun g1 => EvL.bind (specCome n F _) (EvL.bind (Ev.of 1 fun m => spec_l2Most_eq m) ?_)
      rw [e2]
      exact EvL.andn fun g2 => hrest (by rw [g1, g2]; rfl)
  · have c0 : (i : Int) < ((lanesM n.1).length : Int) := by omega
    have c1 : (0 : Int) ≤ (i : Int) := by omega
    have c2 : (i : Int) < (n.2.2.2.2.1.length : Int) := by omega
    have c3 : i < (lanesM n.1).length := by omega
    have hx := hs.lane _ (getD_mem n.2.2.2.2.1 dLa i (by omega))
    refine EvL.step (fun k j => spec_NodeOk_9_eq k j _ n (lanesM n.1)) ?_
    simp only [decide_eq_true c0, decide_eq_true c1, decide_eq_true c2, decide_eq_true c3, cond_true, Int.toNat_natCast, w64n i (by omega), want i hi, ne_dec]
    unfold laneAt at hrest ⊢
    rw [Bool.and_assoc]
    refine EvL.and (specLane_ev _ hx) fun g1 => (EvL.andn fun g2 => hrest ?_).to (by rw [Bool.not_not])
    rw [g1, Bool.true_and]
    exact nf g2
theorem specNd (n : Nd) (hs : SmallNd n) : Ev (fun k => spec_NodeOk k n) (nodeM n) := by
  unfold nodeM
  refine Ev.step (fun k => spec_NodeOk_eq k n) (Ev.and (Ev.of 1 fun m => specIn m _ _ _) fun _ => Ev.bind (Ev.of 1 fun m => spec_l22Max_eq m) (Ev.and (Ev.of 1 fun m => specIn m _ _ _) fun _ => Ev.and (Ev.of 1 fun m => specIn m _ _ _) fun _ => Ev.bind (Ev.of 1 fun m => spec_l22Max_eq m) (Ev.and (Ev.of 1 fun m => specIn m _ _ _) fun _ =>
    Ev.bind (Ev.of 1 fun m => spec_l2Most_eq m) (Ev.and (specEvents_ev _ _ hs.kept) fun hk => Ev.and (specOuts_ev _ _ hs.outs) fun _ => Ev.and (specForms n hs) fun hf => ?_))))
  obtain ⟨hv, _, hf⟩ := forms_parts hf
  have ho := hs.outs
  unfold outLast
  have tail := specTail n hs hk hv hf
  by_cases h0 : n.2.2.2.2.2.2.1.length = 0
  · have c1 : ¬ ((n.2.2.2.2.2.2.1.length : Int) > 0) := by omega
    rw [decide_eq_true h0, Bool.true_or, Bool.true_and]
    refine Ev.congr (fun k => ?_) tail
    rw [decide_eq_false c1, cond_false]
  · have c1 : ((n.2.2.2.2.2.2.1.length : Int) > 0) := by omega
    have e1 : IntKind.i64.wrap ((n.2.2.2.2.2.2.1.length : Int) - 1) = ((n.2.2.2.2.2.2.1.length - 1 : Nat) : Int) := by rw [w64 (by omega) (by omega)]; omega
    have c2 : (0 : Int) ≤ ((n.2.2.2.2.2.2.1.length - 1 : Nat) : Int) := by omega
    have c3 : ((n.2.2.2.2.2.2.1.length - 1 : Nat) : Int) < (n.2.2.2.2.2.2.1.length : Int) := by omega
    rw [decide_eq_false h0, Bool.false_or]
    refine Ev.congr (fun k => ?_) (Ev.andn (b := decide ((n.2.2.2.2.2.2.1.getD (n.2.2.2.2.2.2.1.length - 1) dOx).1 ≥ n.2.2.2.1)) fun _ => tail)
    rw [decide_eq_true c1, cond_true, e1, decide_eq_true c2, decide_eq_true c3, cond_true, cond_true, Int.toNat_natCast]
def implForm (n : Nd) : Bool := inB n.1 0 2 && (inB n.2.2.1 1 9999 && (inB n.2.2.2.1 0 41 && (inB n.2.2.2.2.2.2.2.1 0 9999 && (inB n.2.2.2.2.2.2.2.2.1 0 9999 && (inB n.2.2.2.2.2.2.2.2.2.2.2.1 0 9999 && inB n.2.2.2.2.2.2.2.2.2.2.2.2 0 41)))))
theorem implNumbers (n : Nd) : Ev (fun k => impl_numbersOk k n) (implForm n) := by
  have hb : Ev (fun k => impl_isNode k n.1) (inB n.1 0 2) := Ev.step (fun k => impl_isNode_eq k n.1) (Ev.bind (Ev.of 1 fun m => implIn m _ _ _) (Ev.now _))
  exact Ev.step (fun k => impl_numbersOk_eq k n) (Ev.and' hb fun _ => Ev.and' (Ev.of 1 fun m => implIn m _ _ _) fun _ => Ev.and' (Ev.of 1 fun m => implIn m _ _ _) fun _ => Ev.and' (Ev.of 1 fun m => implIn m _ _ _) fun _ => Ev.and' (Ev.of 1 fun m => implIn m _ _ _) fun _ => Ev.and' (Ev.of 1 fun m => implIn m _ _ _) fun _ => Ev.bind (Ev.of 1 fun m => implIn m _ _ _) (Ev.now _))
def outsAt (n : Nd) (i : Nat) : Bool := !decide ((n.2.2.2.2.2.2.1.getD i dOx).1 ≥ n.2.2.2.1)
theorem outs_at (n : Nd) : (List.range n.2.2.2.2.2.2.1.length).all (outsAt n) = outsIn n := by
  unfold outsIn outsAt
  generalize n.2.2.2.2.2.2.1 = l
  generalize n.2.2.2.1 = g
  rw [Bool.eq_iff_iff]
  simp only [List.all_eq_true, List.mem_range]
  constructor
  · intro h o ho
    obtain ⟨i, hi, rfl⟩ := List.mem_iff_getElem.1 ho
    have := h i hi
    rwa [getD_eq l _ i hi] at this
  · intro h i hi
    exact h _ (getD_mem l _ i hi)
def laneAtI (n : Nd) (i : Nat) : Bool := decide ((n.2.2.2.2.1.getD i dLa).1 = (procsM n.1).getD i (dflt t_int)) && laneM (n.2.2.2.2.1.getD i dLa)
theorem implShape (n : Nd) (hs : SmallNd n) : Ev (fun k => impl_shapeOk k n) (implForm n && (eventsM n.2.2.2.2.2.1 100 && (outsM n.2.2.2.2.2.2.1 96 && (outsIn n && (decide (n.2.2.2.2.1.length = (procsM n.1).length) && (decide (n.2.2.2.2.2.2.2.2.2.1.length = 3) && (decide (n.2.2.2.2.2.2.2.2.2.2.1.length = 3) && ((List.range (procsM n.1).length).all (laneAtI n) && ((List.range 3).all (formAt n) && true))))))))) := by
  have hne : ∀ m : Nat, ((m : Int) != 3) = !decide (m = 3) := fun m => by by_cases h : m = 3 <;> simp [h]; omega
  have hp := procs_le n.1
  have hol := hs.outs
  refine Ev.step (fun k => impl_shapeOk_eq k n) (Ev.and (implNumbers n) fun _ => Ev.and (implEvents_ev _ _ hs.kept) fun _ => Ev.and (implOuts_ev _ _ hs.outs) fun _ => EvL.ev (L := fun k j => impl_shapeOk_4 k j n.2.2.2.2.2.2.1 (n.2.2.2.2.2.2.1.length : Int) 0 n) ?_)
  rw [← outs_at]
  refine ask_then (fun k j i => impl_shapeOk_4 k j n.2.2.2.2.2.2.1 (n.2.2.2.2.2.2.1.length : Int) (i : Int) n) n.2.2.2.2.2.2.1.length (outsAt n) _ (fun _ => ?_) fun i hi rest hrest => ?_
  · refine EvL.step (M := fun k _ => (impl_procsOf k n.1).bind fun x0 => cond ((n.2.2.2.2.1.length : Int) != (x0.length : Int)) (some false) (cond ((n.2.2.2.2.2.2.2.2.2.1.length : Int) != 3) (some false) (cond ((n.2.2.2.2.2.2.2.2.2.2.1.length : Int) != 3) (some false) (impl_shapeOk_13 k k n.2.2.2.2.1 (n.2.2.2.2.1.length : Int) 0 n x0)))) (fun k j => ?_) ?_
    · rw [impl_shapeOk_4_eq, decide_eq_false (by omega), cond_false]
    refine EvL.bind (implProcs n.1) ?_
    rw [len_ne', hne, hne]
    refine (EvL.andn fun hl => (EvL.andn fun hv => (EvL.andn fun hk => Ev.L (g := fun k => impl_shapeOk_13 k k n.2.2.2.2.1 (n.2.2.2.2.1.length : Int) 0 n (procsM n.1)) (EvL.ev (L := fun k j => impl_shapeOk_13 k j n.2.2.2.2.1 (n.2.2.2.2.1.length : Int) 0 n (procsM n.1)) (r := (List.range (procsM n.1).length).all (laneAtI n) && ((List.range 3).all (formAt n) && true)) ?_)).to (by rw [Bool.not_not])).to (by rw [Bool.not_not])).to (by rw [Bool.not_not])
    have hl : n.2.2.2.2.1.length = (procsM n.1).length := by simpa using hl
    have hv : n.2.2.2.2.2.2.2.2.2.1.length = 3 := by simpa using hv
    have hk : n.2.2.2.2.2.2.2.2.2.2.1.length = 3 := by simpa using hk
    refine ask_then (fun k j i => impl_shapeOk_13 k j n.2.2.2.2.1 (n.2.2.2.2.1.length : Int) (i : Int) n (procsM n.1)) (procsM n.1).length (laneAtI n) _ (fun _ => ?_) fun i hi rest hrest => ?_
    · refine EvL.step (M := fun k _ => impl_shapeOk_19 k k n.2.2.2.2.2.2.2.2.2.1 (n.2.2.2.2.2.2.2.2.2.1.length : Int) 0 n) (fun k j => ?_) (Ev.L (EvL.ev (L := fun k j => impl_shapeOk_19 k j n.2.2.2.2.2.2.2.2.2.1 (n.2.2.2.2.2.2.2.2.2.1.length : Int) 0 n) ?_))
      · rw [impl_shapeOk_13_eq, decide_eq_false (by omega), cond_false]
      refine ask_then (fun k j i => impl_shapeOk_19 k j n.2.2.2.2.2.2.2.2.2.1 (n.2.2.2.2.2.2.2.2.2.1.length : Int) (i : Int) n) 3 (formAt n) true (fun _ => ?_) fun i hi rest hrest => ?_
      · refine EvL.step (M := fun _ _ => some true) (fun k j => ?_) (EvL.now _)
        rw [impl_shapeOk_19_eq, decide_eq_false (by omega)]; rfl
      · have c0 : (i : Int) < (n.2.2.2.2.2.2.2.2.2.1.length : Int) := by omega
        have c1 : (0 : Int) ≤ (i : Int) := by omega
        have c3 : (i : Int) < (n.2.2.2.2.2.2.2.2.2.2.1.length : Int) := by omega
        refine EvL.step (fun k j => impl_shapeOk_19_eq k j _ _ _ n) ?_
        simp only [decide_eq_true c0, decide_eq_true c1, decide_eq_true c3, cond_true, Int.toNat_natCast, w64n i (by omega)]
        unfold formAt viewM at hrest ⊢
        rw [Bool.and_assoc, Bool.and_assoc, Bool.and_assoc]
        refine EvL.and' (Ev.of 1 fun m => implIn m _ _ _) fun g1 => EvL.and' (Ev.of 1 fun m => implIn m _ _ _) fun g2 => EvL.and (implEvents_ev _ _ (hs.view _ (getD_mem _ _ _ (by omega)))) fun g3 => EvL.and (Ev.of 1 fun m => implIn m _ _ _) fun g4 => hrest (by rw [g1, g2, g3, g4]; rfl)
    · have c0 : (i : Int) < (n.2.2.2.2.1.length : Int) := by omega
      have c1 : (0 : Int) ≤ (i : Int) := by omega
      have c2 : (i : Int) < ((procsM n.1).length : Int) := by omega
      have hx := hs.lane _ (getD_mem n.2.2.2.2.1 dLa i (by omega))
      refine EvL.step (fun k j => impl_shapeOk_13_eq k j _ _ _ n _) ?_
      simp only [decide_eq_true c0, decide_eq_true c1, decide_eq_true c2, cond_true, Int.toNat_natCast, decide_eq_true hi, w64n i (by omega), ne_dec]
      unfold laneAtI at hrest ⊢
      rw [Bool.and_assoc]
      refine (EvL.andn fun g1 => EvL.and (implLane_ev _ hx) fun g2 => hrest ?_).to (by rw [Bool.not_not])
      rw [g2, Bool.and_true]
      exact nf g1
  · have c0 : (i : Int) < (n.2.2.2.2.2.2.1.length : Int) := by omega
    have c1 : (0 : Int) ≤ (i : Int) := by omega
    refine EvL.step (fun k j => impl_shapeOk_4_eq k j _ _ _ n) ?_
    simp only [decide_eq_true c0, decide_eq_true c1, cond_true, Int.toNat_natCast, w64n i (by omega)]
    unfold outsAt at hrest ⊢
    exact EvL.andn fun g => hrest (by rw [g]; rfl)
noncomputable def agreeAtI (n : Nd) (i : Nat) : Bool := !decide ((comeM n ((procsM n.1).getD i (dflt t_int))).length > 100) && !decide ((sameM (n.2.2.2.2.1.getD i dLa).2.2 (comeM n ((procsM n.1).getD i (dflt t_int)))) < (n.2.2.2.2.1.getD i dLa).2.2.length)
theorem implAgrees (n : Nd) (hs : SmallNd n) (F : Fair n) (hl : n.2.2.2.2.1.length = (procsM n.1).length) : Ev (fun k => impl_NodeOk_5 k k (bodyM n) ((procsM n.1).length : Int) 0 (procsM n.1)) ((List.range (procsM n.1).length).all (agreeAtI n) && true) := by
  have hp := procs_le n.1
  have hdl : (doneM n).length = n.2.2.2.2.1.length := List.length_map _
  refine EvL.ev (L := fun k j => impl_NodeOk_5 k j (bodyM n) ((procsM n.1).length : Int) 0 (procsM n.1)) ?_
  refine ask_then (fun k j i => impl_NodeOk_5 k j (bodyM n) ((procsM n.1).length : Int) (i : Int) (procsM n.1)) (procsM n.1).length (agreeAtI n) true (fun _ => ?_) fun i hi rest hrest => ?_
  · refine EvL.step (M := fun _ _ => some true) (fun k j => ?_) (EvL.now _)
    rw [impl_NodeOk_5_eq, decide_eq_false (by omega)]; rfl
  · have c0 : (i : Int) < ((procsM n.1).length : Int) := by omega
    have c1 : (0 : Int) ≤ (i : Int) := by omega
    have c2 : (i : Int) < (((bodyM n).2.2.1).length : Int) := by show (i : Int) < ((doneM n).length : Int); omega
    have hx := hs.lane _ (getD_mem n.2.2.2.2.1 dLa i (by omega))
    have hdone : (bodyM n).2.2.1.getD i (dflt t_sl_impl_Past) = (n.2.2.2.2.1.getD i dLa).2.2 := done_at n i (by omega)
    refine EvL.step (fun k j => impl_NodeOk_5_eq k j (bodyM n) _ _ _) ?_
    simp only [decide_eq_true c0, decide_eq_true c1, decide_eq_true c2, cond_true, Int.toNat_natCast, decide_eq_true hi, w64n i (by omega), hdone]
    refine EvL.bind (implCome n F _) ?_
    have e1 : decide ((sameM (n.2.2.2.2.1.getD i dLa).2.2 (comeM n ((procsM n.1).getD i (dflt t_int))) : Int) < ((n.2.2.2.2.1.getD i dLa).2.2.length : Int)) = decide (sameM (n.2.2.2.2.1.getD i dLa).2.2 (comeM n ((procsM n.1).getD i (dflt t_int))) < (n.2.2.2.2.1.getD i dLa).2.2.length) := by congr 1; exact propext (by omega)
    have e2 : decide (((comeM n ((procsM n.1).getD i (dflt t_int))).length : Int) > 100) = decide ((comeM n ((procsM n.1).getD i (dflt t_int))).length > 100) := by congr 1; exact propext (by omega)
    unfold agreeAtI at hrest ⊢
    rw [Bool.and_assoc, e2]
    refine EvL.andn fun g1 => EvL.bind (implChain _ hx.1) (EvL.bind (implAgree _ _ hx.1 (come_len n F _)) ?_)
    rw [e1]
    exact EvL.andn fun g2 => hrest (by rw [g1, g2]; rfl)
theorem implNd (n : Nd) (hs : SmallNd n) : Ev (fun k => impl_NodeOk k n) (nodeM n) := by
  have e : nodeM n = ((implForm n && (eventsM n.2.2.2.2.2.1 100 && (outsM n.2.2.2.2.2.2.1 96 && (outsIn n && (decide (n.2.2.2.2.1.length = (procsM n.1).length) && (decide (n.2.2.2.2.2.2.2.2.2.1.length = 3) && (decide (n.2.2.2.2.2.2.2.2.2.2.1.length = 3) && ((List.range (procsM n.1).length).all (laneAtI n) && ((List.range 3).all (formAt n) && true))))))))) && ((List.range (procsM n.1).length).all (agreeAtI n) && true)) := by
    have el : laneAtI n = laneAt n := by funext i; unfold laneAtI laneAt; rw [Bool.and_comm]
    have ea : agreeAtI n = agreeAt n := by funext i; unfold agreeAtI agreeAt; rw [Bool.and_comm]
    rw [el, ea]
    unfold nodeM okForms okTail implForm
    by_cases ho : outsM n.2.2.2.2.2.2.1 96 = true
    · rw [outs_last n ho]
      generalize inB n.1 0 2 = b1
      generalize inB n.2.2.1 1 9999 = b2
      generalize inB n.2.2.2.1 0 41 = b3
      generalize inB n.2.2.2.2.2.2.2.1 0 9999 = b4
      generalize eventsM n.2.2.2.2.2.1 100 = b5
      generalize outsM n.2.2.2.2.2.2.1 96 = b6
      generalize decide (n.2.2.2.2.2.2.2.2.2.1.length = 3) = b7
      generalize decide (n.2.2.2.2.2.2.2.2.2.2.1.length = 3) = b8
      generalize inB n.2.2.2.2.2.2.2.2.1 0 9999 = b9
      generalize inB n.2.2.2.2.2.2.2.2.2.2.2.1 0 9999 = b10
      generalize inB n.2.2.2.2.2.2.2.2.2.2.2.2 0 41 = b11
      generalize (List.range 3).all (formAt n) = b12
      generalize outsIn n = b13
      generalize decide (n.2.2.2.2.1.length = (procsM n.1).length) = b14
      generalize (List.range (procsM n.1).length).all (laneAt n) = b15
      generalize (List.range (procsM n.1).length).all (agreeAt n) = b16
      ac_rfl
    · have ho : outsM n.2.2.2.2.2.2.1 96 = false := by simpa using ho
      rw [ho]
      simp
  rw [e]
  refine Ev.step (fun k => impl_NodeOk_eq k n) (Ev.and (implShape n hs) fun h => ?_)
  simp only [Bool.and_eq_true, decide_eq_true_eq] at h
  obtain ⟨_, hk, _, _, hl, hv, hkn, hla, hf, _⟩ := h
  have hla' : ∀ i, i < (procsM n.1).length → laneAt n i = true := fun i hi => by
    have := all_true hla i hi
    unfold laneAtI at this
    unfold laneAt
    rw [Bool.and_comm]; exact this
  have F := fair n hk hv (all_true hf) hl hla'
  exact Ev.bind (implBody n hs.lanes hv hkn) (Ev.bind (implProcs n.1) (implAgrees n hs F hl))
end Go.Proofs.YtjhldhlmckbapaaGreat.SFnExactHubOuts
