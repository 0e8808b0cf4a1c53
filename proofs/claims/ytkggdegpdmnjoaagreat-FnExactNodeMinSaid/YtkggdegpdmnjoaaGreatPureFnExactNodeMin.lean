/- Proved: at every node the program's NodeMin answers as the reference's. No condition. -/
import Derived.Test.YtkggdegpdmnjoaaGreatNodeEqPlFnExactNodeMin
import Derived.Test.YtkggdegpdmnjoaaGreatNodeSzPlFnExactNodeMin
set_option linter.unusedVariables false
namespace Go.Proofs.YtkggdegpdmnjoaaGreat.SFnExactNodeMin
open Go Go.Sx Go.Pl

/-- What is found first: the least time so far. -/
noncomputable def leastM (n : Nd) (i : Nat) : Ev7 × Bool := nextM (n.2.2.2.2.1.getD i dLa) (comeM n (n.2.2.2.2.1.getD i dLa).1)
noncomputable def minAt (n : Nd) : Nat → Nat → Int → Int
  | 0, _, m => m
  | c + 1, i, m => minAt n c (i + 1) (if (leastM n i).2 = true ∧ (leastM n i).1.1 < m then (leastM n i).1.1 else m)
/-- A node that is ok, in its parts. -/
structure OkNd (n : Nd) : Prop where
  fair : Fair n
  len : n.2.2.2.2.1.length = (procsM n.1).length
  views : n.2.2.2.2.2.2.2.2.2.1.length = 3
  known : n.2.2.2.2.2.2.2.2.2.2.1.length = 3
  lane : ∀ i, i < (procsM n.1).length → laneM (n.2.2.2.2.1.getD i dLa) = true ∧ (n.2.2.2.2.1.getD i dLa).1 = (procsM n.1).getD i (dflt t_int)
  evs : ∀ x ∈ sentM n.2.2.2.2.2.1 (doneM n) ++ otherM n.1 n.2.2.2.2.2.2.2.2.2.1, evM x = true
  come : ∀ i, i < (procsM n.1).length → (comeM n ((procsM n.1).getD i (dflt t_int))).length ≤ 100
theorem evM_all {l : List Ev7} {n : Int} (h : eventsM l n = true) : ∀ x ∈ l, evM x = true := by
  unfold eventsM at h
  simp only [Bool.and_eq_true] at h
  exact listM_all h.2
theorem evs_of (n : Nd) (hk : eventsM n.2.2.2.2.2.1 100 = true) (hv : n.2.2.2.2.2.2.2.2.2.1.length = 3) (hf : ∀ i, i < 3 → formAt n i = true) (hl : n.2.2.2.2.1.length = (procsM n.1).length) (ha : ∀ i, i < (procsM n.1).length → laneAt n i = true) : ∀ x ∈ sentM n.2.2.2.2.2.1 (doneM n) ++ otherM n.1 n.2.2.2.2.2.2.2.2.2.1, evM x = true := by
  intro e he
  unfold sentM at he
  rcases List.mem_append.1 he with he | he
  · rcases List.mem_append.1 he with he | he
    · exact evM_all hk e he
    · obtain ⟨d, hd, he⟩ := List.mem_flatMap.1 he
      obtain ⟨x, hx, rfl⟩ := List.mem_map.1 hd
      obtain ⟨y, hy, hey⟩ := List.mem_flatMap.1 he
      obtain ⟨i, hi, rfl⟩ := List.mem_iff_getElem.1 hx
      have := ha i (by omega)
      unfold laneAt at this
      simp only [Bool.and_eq_true] at this
      rw [getD_eq _ _ _ hi] at this
      have := this.1
      unfold laneM at this
      simp only [Bool.and_eq_true] at this
      have hy := listM_all this.2.2.2 y hy
      unfold pastM at hy
      simp only [Bool.and_eq_true] at hy
      exact evM_all hy.2.2.2.1 e hey
  · obtain ⟨i, hi, he⟩ := List.mem_flatMap.1 he
    have hi := List.mem_range.1 hi
    split at he
    · have := hf i (by omega)
      unfold formAt viewM at this
      simp only [Bool.and_eq_true] at this
      exact evM_all this.1.2.2 e he
    · cases he
theorem srt_list {l : List Ev7} (hs : Srt l) (ho : ∀ x ∈ l, evM x = true) : listM evM lessE l = true := by
  rw [listM_range dE7]
  refine List.all_eq_true.2 fun i hi => ?_
  have hi := List.mem_range.1 hi
  unfold pairAt
  simp only [Bool.and_eq_true, Bool.or_eq_true, decide_eq_true_eq]
  refine ⟨ho _ (getD_mem l _ i hi), ?_⟩
  by_cases h0 : i = 0
  · exact .inl h0
  · refine .inr ?_
    have := List.pairwise_iff_getElem.1 hs (i - 1) i (by omega) hi (by omega)
    rw [getD_eq l _ (i - 1) (by omega), getD_eq l _ i hi]
    exact this
theorem okNd (n : Nd) (h : nodeM n = true) : OkNd n := by
  unfold nodeM okTail at h
  simp only [Bool.and_eq_true, decide_eq_true_eq] at h
  obtain ⟨_, _, _, _, hk, _, hf, _, hl, hla, hag, _⟩ := h
  obtain ⟨hv, hkn, hff⟩ := forms_parts hf
  have ha := all_true hla
  refine ⟨fair n hk hv hff hl ha, hl, hv, hkn, fun i hi => ?_, evs_of n hk hv hff hl ha, fun i hi => ?_⟩
  · have := ha i hi
    unfold laneAt at this
    simp only [Bool.and_eq_true, decide_eq_true_eq] at this
    exact this
  · have := all_true hag i hi
    unfold agreeAt at this
    simp only [Bool.and_eq_true, Bool.not_eq_true', decide_eq_false_iff_not] at this
    omega
/-- What has come to a process of a node that is ok is in form. -/
theorem come_in (n : Nd) (h : nodeM n = true) (i : Nat) (hi : i < (procsM n.1).length) : cameM (n.2.2.2.2.1.getD i dLa) (comeM n (n.2.2.2.2.1.getD i dLa).1) = true := by
  have O := okNd n h
  obtain ⟨_, hp⟩ := O.lane i hi
  have hc := O.come i hi
  rw [← hp] at hc
  have hall := O.fair.all
  have hfl : ((sentM n.2.2.2.2.2.1 (doneM n) ++ otherM n.1 n.2.2.2.2.2.2.2.2.2.1).filter (toP (n.2.2.2.2.1.getD i dLa).1 n.2.2.2.1)).length ≤ _ := List.length_filter_le _ _
  obtain ⟨_, _, _, hmem, hsrt⟩ := sorts ((sentM n.2.2.2.2.2.1 (doneM n) ++ otherM n.1 n.2.2.2.2.2.2.2.2.2.1).filter (toP (n.2.2.2.2.1.getD i dLa).1 n.2.2.2.1)) (by omega) fun x hx => O.fair.wf x (List.mem_filter.1 hx).1
  rw [← come_eq] at hmem hsrt
  have hin : ∀ x ∈ comeM n (n.2.2.2.2.1.getD i dLa).1, evM x = true ∧ x.2.1 = (n.2.2.2.2.1.getD i dLa).1 := fun x hx => by
    obtain ⟨h1, h2⟩ := List.mem_filter.1 ((hmem x).1 hx)
    unfold toP at h2
    simp only [Bool.and_eq_true, beq_iff_eq] at h2
    exact ⟨O.evs x h1, h2.1⟩
  unfold cameM eventsM toB
  rw [srt_list hsrt fun x hx => (hin x hx).1]
  simp only [Bool.and_true, Bool.and_eq_true, decide_eq_true_eq, List.all_eq_true, List.mem_range]
  exact ⟨by omega, fun j hj => (hin _ (getD_mem _ _ j hj)).2⟩
theorem specNextAt (n : Nd) (h : nodeM n = true) (hs : SmallNd n) (i : Nat) (hi : i < (procsM n.1).length) : Ev (fun k => spec_l22Next k n (i : Int)) (leastM n i) := by
  have O := okNd n h
  have hl := O.len
  have c1 : (0 : Int) ≤ (i : Int) := by omega
  have c2 : (i : Int) < (n.2.2.2.2.1.length : Int) := by omega
  have hx := hs.lane _ (getD_mem n.2.2.2.2.1 dLa i (by omega))
  have hcl := come_len n O.fair (n.2.2.2.2.1.getD i dLa).1
  have hnl : nextLM (n.2.2.2.2.1.getD i dLa) (comeM n (n.2.2.2.2.1.getD i dLa).1) = leastM n i := by
    unfold nextLM leastM
    rw [if_pos ⟨(O.lane i hi).1, come_in n h i hi⟩]
  have key : Ev (fun k => (spec_l22Came k n (n.2.2.2.2.1.getD i dLa).1).bind fun x0 => (spec_LaneNext k (n.2.2.2.2.1.getD i dLa) x0).bind fun x1 => some ((x1.1.1, x1.1.2.1, x1.1.2.2.1, x1.1.2.2.2.1, x1.1.2.2.2.2.1, x1.1.2.2.2.2.2.1, x1.1.2.2.2.2.2.2), x1.2)) (leastM n i) :=
    Ev.bind (specCome n O.fair _) (Ev.bind (specNext _ _ hx hcl) ((Ev.now _).to hnl))
  refine Ev.step (fun k => ?_) key
  rw [spec_l22Next_eq, decide_eq_true c1, decide_eq_true c2, cond_true, cond_true, cond_true, cond_true, Int.toNat_natCast]
theorem specMin (n : Nd) (h : nodeM n = true) (hs : SmallNd n) : Ev (fun k => spec_NodeMin_5 k k 41 0 n) (minAt n (procsM n.1).length 0 41) := by
  have O := okNd n h
  have hl := O.len
  have hp := procs_le n.1
  have key : ∀ m i (y : Int), i + m = (procsM n.1).length → EvL (fun k j => spec_NodeMin_5 k j y (i : Int) n) (minAt n m i y) := by
    intro m
    induction m with
    | zero =>
      intro i y hi
      refine EvL.step (M := fun _ _ => some y) (fun k j => ?_) (EvL.now _)
      rw [spec_NodeMin_5_eq, decide_eq_false (by omega), cond_false]
    | succ m ih =>
      intro i y hi
      have c2 : (i : Int) < (n.2.2.2.2.1.length : Int) := by omega
      have hw := w64n i (by omega)
      unfold minAt
      by_cases hb : (leastM n i).2 = true
      · by_cases hc : (leastM n i).1.1 < y
        · rw [if_pos ⟨hb, hc⟩]
          refine EvL.step (M := fun k j => (spec_l22Next k n (i : Int)).bind fun x0 => cond x0.2 (cond (decide (x0.1.1 < y)) (spec_NodeMin_5 k j x0.1.1 ((i + 1 : Nat) : Int) n) (spec_NodeMin_5 k j y ((i + 1 : Nat) : Int) n)) (spec_NodeMin_5 k j y ((i + 1 : Nat) : Int) n)) (fun k j => ?_) (EvL.bind (specNextAt n h hs i (by omega)) (EvL.cond (fun _ => EvL.cond (fun _ => ih (i + 1) _ (by omega)) fun h2 => ?_) fun h2 => ?_))
          · rw [spec_NodeMin_5_eq, decide_eq_true c2, cond_true, hw]
          · exact absurd hc (of_decide_eq_false h2)
          · rw [hb] at h2; cases h2
        · rw [if_neg (fun hh => hc hh.2)]
          refine EvL.step (M := fun k j => (spec_l22Next k n (i : Int)).bind fun x0 => cond x0.2 (cond (decide (x0.1.1 < y)) (spec_NodeMin_5 k j x0.1.1 ((i + 1 : Nat) : Int) n) (spec_NodeMin_5 k j y ((i + 1 : Nat) : Int) n)) (spec_NodeMin_5 k j y ((i + 1 : Nat) : Int) n)) (fun k j => ?_) (EvL.bind (specNextAt n h hs i (by omega)) (EvL.cond (fun _ => EvL.cond (fun h2 => ?_) fun _ => ih (i + 1) _ (by omega)) fun h2 => ?_))
          · rw [spec_NodeMin_5_eq, decide_eq_true c2, cond_true, hw]
          · exact absurd (of_decide_eq_true h2) hc
          · rw [hb] at h2; cases h2
      · rw [if_neg (fun hh => hb hh.1)]
        refine EvL.step (M := fun k j => (spec_l22Next k n (i : Int)).bind fun x0 => cond x0.2 (cond (decide (x0.1.1 < y)) (spec_NodeMin_5 k j x0.1.1 ((i + 1 : Nat) : Int) n) (spec_NodeMin_5 k j y ((i + 1 : Nat) : Int) n)) (spec_NodeMin_5 k j y ((i + 1 : Nat) : Int) n)) (fun k j => ?_) (EvL.bind (specNextAt n h hs i (by omega)) (EvL.cond (fun h2 => absurd h2 hb) fun _ => ih (i + 1) _ (by omega)))
        rw [spec_NodeMin_5_eq, decide_eq_true c2, cond_true, hw]
  exact EvL.ev (L := fun k j => spec_NodeMin_5 k j 41 0 n) (key _ 0 41 (by omega))
/-- A lane of the inside. -/
theorem implLaneAt (n : Nd) (O : OkNd n) (i : Nat) (hi : i < (procsM n.1).length) : Ev (fun k => impl_body_lane_h0 k (bodyM n) (i : Int)) (n.2.2.2.2.1.getD i dLa) := by
  have hl := O.len
  have hdl : (doneM n).length = n.2.2.2.2.1.length := List.length_map _
  have hkl : (n.2.2.2.2.1.map (·.2.1)).length = n.2.2.2.2.1.length := List.length_map _
  have c1 : (0 : Int) ≤ (i : Int) := by omega
  have c2 : (i : Int) < ((procsM n.1).length : Int) := by omega
  have c3 : (i : Int) < (((bodyM n).1.2.2.2.2.1).length : Int) := by show (i : Int) < ((n.2.2.2.2.1.map (·.2.1)).length : Int); omega
  have c4 : (i : Int) < (((bodyM n).2.2.1).length : Int) := by show (i : Int) < ((doneM n).length : Int); omega
  have e1 : (bodyM n).1.2.2.2.2.1.getD i (dflt t_impl_State) = (n.2.2.2.2.1.getD i dLa).2.1 := map_getD _ _ _ (by omega) _ _
  have e2 : (bodyM n).2.2.1.getD i (dflt t_sl_impl_Past) = (n.2.2.2.2.1.getD i dLa).2.2 := done_at n i (by omega)
  have e3 := (O.lane i hi).2
  refine Ev.step (fun k => impl_body_lane_h0_eq k (bodyM n) (i : Int)) (Ev.bind (implProcs n.1) ?_)
  refine Ev.congr (fun k => ?_) (Ev.now (n.2.2.2.2.1.getD i dLa))
  rw [decide_eq_true c1, decide_eq_true c2, Int.toNat_natCast, decide_eq_true hi, cond_true, cond_true, cond_true, decide_eq_true c3, decide_eq_true c4, cond_true, cond_true, cond_true, cond_true, e1, e2, ← e3]
theorem implMin (n : Nd) (h : nodeM n = true) (hs : SmallNd n) : Ev (fun k => impl_body_min_h0 k (bodyM n)) (minAt n (procsM n.1).length 0 41) := by
  have O := okNd n h
  have hl := O.len
  have hp := procs_le n.1
  have hnext : ∀ i, i < (procsM n.1).length → Ev (fun k => impl_laneNext k (n.2.2.2.2.1.getD i dLa) (comeM n ((procsM n.1).getD i (dflt t_int)))) (leastM n i) := fun i hi => by
    have hx := hs.lane _ (getD_mem n.2.2.2.2.1 dLa i (by omega))
    have := implNextIn _ _ hx (come_len n O.fair ((procsM n.1).getD i (dflt t_int)))
    unfold leastM
    rw [(O.lane i hi).2]
    exact this
  refine Ev.step (fun k => impl_body_min_h0_eq k (bodyM n)) (Ev.bind (implProcs n.1) ?_)
  have key : ∀ m i (y : Int), i + m = (procsM n.1).length → EvL (fun k j => impl_body_min_h0_3 k j (bodyM n) y ((procsM n.1).length : Int) (i : Int) (procsM n.1)) (minAt n m i y) := by
    intro m
    induction m with
    | zero =>
      intro i y hi
      refine EvL.step (M := fun _ _ => some y) (fun k j => ?_) (EvL.now _)
      rw [impl_body_min_h0_3_eq, decide_eq_false (by omega), cond_false]
    | succ m ih =>
      intro i y hi
      have c1 : (0 : Int) ≤ (i : Int) := by omega
      have c2 : (i : Int) < ((procsM n.1).length : Int) := by omega
      have hi' : i < (procsM n.1).length := by omega
      have hw := w64n i (by omega)
      unfold minAt
      have st : ∀ k j, impl_body_min_h0_3 k (j + 1) (bodyM n) y ((procsM n.1).length : Int) (i : Int) (procsM n.1) = (impl_body_lane_h0 k (bodyM n) (i : Int)).bind fun x0 => (impl_body_came_h0 k (bodyM n) ((procsM n.1).getD i (dflt t_int))).bind fun x1 => (impl_laneNext k x0 x1).bind fun x2 => cond x2.2 (cond (decide (x2.1.1 < y)) (impl_body_min_h0_3 k j (bodyM n) x2.1.1 ((procsM n.1).length : Int) ((i + 1 : Nat) : Int) (procsM n.1)) (impl_body_min_h0_3 k j (bodyM n) y ((procsM n.1).length : Int) ((i + 1 : Nat) : Int) (procsM n.1))) (impl_body_min_h0_3 k j (bodyM n) y ((procsM n.1).length : Int) ((i + 1 : Nat) : Int) (procsM n.1)) := fun k j => by
        rw [impl_body_min_h0_3_eq, decide_eq_true c2, cond_true, decide_eq_true c1, cond_true, cond_true, Int.toNat_natCast, decide_eq_true hi', cond_true, hw]
      refine EvL.step st (EvL.bind (implLaneAt n O i hi') (EvL.bind (implCome n O.fair _) (EvL.bind (hnext i hi') ?_)))
      by_cases hb : (leastM n i).2 = true
      · by_cases hc : (leastM n i).1.1 < y
        · rw [if_pos ⟨hb, hc⟩]
          exact EvL.cond (fun _ => EvL.cond (fun _ => ih (i + 1) _ (by omega)) fun h2 => absurd hc (of_decide_eq_false h2)) fun h2 => by rw [hb] at h2; cases h2
        · rw [if_neg (fun hh => hc hh.2)]
          exact EvL.cond (fun _ => EvL.cond (fun h2 => absurd (of_decide_eq_true h2) hc) fun _ => ih (i + 1) _ (by omega)) fun h2 => by rw [hb] at h2; cases h2
      · rw [if_neg (fun hh => hb hh.1)]
        exact EvL.cond (fun h2 => absurd h2 hb) fun _ => ih (i + 1) _ (by omega)
  exact EvL.ev (L := fun k j => impl_body_min_h0_3 k j (bodyM n) 41 ((procsM n.1).length : Int) 0 (procsM n.1)) (key _ 0 41 (by omega))
noncomputable def minM (n : Nd) : Int := if nodeM n = true then minAt n (procsM n.1).length 0 41 else 0
theorem specNodeMin (n : Nd) (hs : SmallNd n) : Ev (fun k => spec_NodeMin k n) (minM n) := by
  unfold minM
  refine Ev.step (fun k => spec_NodeMin_eq k n) (Ev.bind (specNd n hs) (Ev.cond (fun h0 => (Ev.now _).to ?_) fun h0 => ?_))
  · rw [if_neg (by rw [nt h0]; simp)]
  · rw [if_pos (nf h0)]
    exact specMin n (nf h0) hs
theorem implNodeMin (n : Nd) (hs : SmallNd n) : Ev (fun k => impl_NodeMin k n) (minM n) := by
  unfold minM
  refine Ev.step (fun k => impl_NodeMin_eq k n) (Ev.bind (implNd n hs) (Ev.cond (fun h0 => (Ev.now _).to ?_) fun h0 => ?_))
  · rw [if_neg (by rw [nt h0]; simp)]
  · rw [if_pos (nf h0)]
    have O := okNd n (nf h0)
    exact Ev.bind (implBody n hs.lanes O.views O.known) (Ev.bind (implMin n (nf h0) hs) (Ev.now _))
end Go.Proofs.YtkggdegpdmnjoaaGreat.SFnExactNodeMin
namespace Go.Proofs.YtkggdegpdmnjoaaGreat.Pure
open Go Go.Sx Go.Pl Go.Proofs.YtkggdegpdmnjoaaGreat.SFnExactNodeMin
theorem FnExactNodeMin : Goal := by
  intro n hg
  refine Ev.ex (r := true) ?_
  refine Ev.step (fun k => laws_FnExactNodeMin_eq k n) ?_
  obtain ⟨r, hr, hr1, hr2⟩ := szNode n 1048576 (by decide) (by decide) (goodNd n hg)
  refine Ev.bind hr (Ev.cond (fun _ => Ev.now _) fun h0 => ?_)
  have h0 : ¬ r < 0 := by simpa using h0
  have hs := hr2 (by omega)
  have ht := toNode n hs
  refine Ev.bind ht (Ev.bind (specNodeMin n hs) (Ev.bind ht (Ev.bind (implNodeMin n hs) ?_)))
  simp only [bne_self_eq_false, cond_false]
  exact Ev.bind ht (Ev.bind (eqNode n hs) (Ev.now _))
end Go.Proofs.YtkggdegpdmnjoaaGreat.Pure
