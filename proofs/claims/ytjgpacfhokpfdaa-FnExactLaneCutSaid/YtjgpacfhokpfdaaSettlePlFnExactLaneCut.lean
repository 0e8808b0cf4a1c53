/- What is settled of a lane: the reference's LaneSettle and the program's are one plain function. -/
import Derived.Test.YtjgpacfhokpfdaaNodePlFnExactLaneCut
import Derived.Test.YtjgpacfhokpfdaaSortPlFnExactLaneCut
import Derived.Test.YtjgpacfhokpfdaaMarkLaPlFnExactLaneCut
set_option linter.unusedVariables false
set_option linter.unusedSimpArgs false
namespace Go.Proofs.Ytjgpacfhokpfdaa.SFnExactLaneCut
open Go Go.Sx Go.Pl

/-- What is done before a time, gathered: events, what is let out, the base, what stays. -/
def setM (u : Int) : List Pa → List Ev7 → List Ou5 → St3 → List Ev7 × List Ou5 × St3 × List Pa
  | [], a, b, s => (a, b, s, [])
  | x :: l, a, b, s => if decide (x.1.1 < u) = true then setM u l (a ++ x.2.2.1) (b ++ x.2.2.2) x.2.1 else (a, b, s, x :: l)
def FewPa (x : Pa) : Prop := x.2.2.1.length ≤ 2 ∧ x.2.2.2.length ≤ 2 ∧ ∀ e ∈ x.2.2.1, WfE e
theorem setM_ok (u : Int) (l : List Pa) : ∀ (a : List Ev7) (b : List Ou5) (s : St3), (∀ x ∈ l, FewPa x) → (setM u l a b s).1.length ≤ a.length + 2 * l.length ∧ (setM u l a b s).2.1.length ≤ b.length + 2 * l.length ∧ (∃ pre, l = pre ++ (setM u l a b s).2.2.2) := by
  induction l with
  | nil => intro a b s _; exact ⟨by simp [setM], by simp [setM], [], rfl⟩
  | cons x l ih =>
    intro a b s hf
    unfold setM
    split
    · obtain ⟨h1, h2, pre, h3⟩ := ih (a ++ x.2.2.1) (b ++ x.2.2.2) x.2.1 fun y hy => hf y (List.mem_cons_of_mem _ hy)
      obtain ⟨f1, f2, _⟩ := hf x (List.mem_cons_self ..)
      rw [List.length_append] at h1 h2
      refine ⟨?_, ?_, x :: pre, ?_⟩
      · rw [List.length_cons]; omega
      · rw [List.length_cons]; omega
      · rw [List.cons_append, ← h3]
    · exact ⟨by simp, by simp, [], rfl⟩
theorem specCopyL (x : La) (p q r s : Int) (l : List Pa) : ∀ (pre acc : List Pa), x.2.2 = pre ++ l → x.2.2.length ≤ 1048576 → acc.length + l.length ≤ 1048576 → (∀ y ∈ l, FewPa y) →
    EvL (fun k j => spec_l21Copy_3 k j (x.2.2.length : Int) (pre.length : Int) x 0 0 0 0 p q r s [] acc) (p, (q, r, s), acc ++ l) := by
  induction l with
  | nil =>
    intro pre acc hx hn ha hf
    refine (EvL.step (M := fun _ _ => some (p, (q, r, s), acc)) (fun k j => ?_) (EvL.now _)).to (by simp)
    have e : (pre.length : Int) = (x.2.2.length : Int) := by rw [hx]; simp
    rw [spec_l21Copy_3_eq, e, decide_eq_false (by omega), cond_false]
  | cons y l ih =>
    intro pre acc hx hn ha hf
    obtain ⟨f1, f2, _⟩ := hf y (List.mem_cons_self ..)
    rw [List.length_cons] at ha
    have hlen : x.2.2.length = pre.length + (l.length + 1) := by rw [hx]; simp
    have c1 : (pre.length : Int) < (x.2.2.length : Int) := by omega
    have c2 : (0 : Int) ≤ (pre.length : Int) := by omega
    have hg : x.2.2.getD pre.length (dflt t_impl_Past) = y := by rw [hx]; exact at_mid pre y _ l
    have c3 : (0 + y.2.2.1.length) * 56 ≤ 140737488351232 := by omega
    have c4 : (0 + y.2.2.2.length) * 40 ≤ 140737488351232 := by omega
    have c5 : (acc.length + 1) * 128 ≤ 140737488351232 := by omega
    have := ih (pre ++ [y]) (acc ++ [y]) (by rw [hx, List.append_assoc]; rfl) hn (by rw [List.length_append, List.length_singleton]; omega) fun z hz => hf z (List.mem_cons_of_mem _ hz)
    rw [List.length_append, List.length_singleton, List.append_assoc] at this
    refine EvL.step (fun k j => ?_) this
    rw [spec_l21Copy_3_eq]
    simp only [decide_eq_true c1, decide_eq_true c2, cond_true, Int.toNat_natCast, hg, decide_eq_true c3, decide_eq_true c4, decide_eq_true c5, w64n pre.length (by omega), List.nil_append]
theorem specCopy (x : La) (pre l : List Pa) (hx : x.2.2 = pre ++ l) (hn : x.2.2.length ≤ 1048576) (hf : ∀ y ∈ l, FewPa y) : Ev (fun k => spec_l21Copy k x (pre.length : Int) (x.2.2.length : Int)) (x.1, x.2.1, l) := by
  have hl : l.length ≤ 1048576 := by rw [hx, List.length_append] at hn; omega
  exact Ev.step (fun k => spec_l21Copy_eq k x _ _) (EvL.ev (L := fun k j => spec_l21Copy_3 k j (x.2.2.length : Int) (pre.length : Int) x 0 0 0 0 x.1 x.2.1.1 x.2.1.2.1 x.2.1.2.2 [] []) (specCopyL x x.1 x.2.1.1 x.2.1.2.1 x.2.1.2.2 l pre [] hx hn (by simpa using hl) hf))
/-! ### the lane is copied -/
theorem implCopyPast (x : Pa) (h : SmallPa x) : Ev (fun k => impl_copyPast k x) x := by
  have h1 := h.1
  have h2 := h.2
  refine Ev.step (fun k => impl_copyPast_eq k x) (Ev.bind (Ev.step (fun k => slices_Clone_impl_Event_impl_Event_eq k _) ?_) (Ev.bind (Ev.step (fun k => slices_Clone_impl_Out_impl_Out_eq k _) ?_) (Ev.now _)))
  · rw [decide_eq_true (by omega)]; exact Ev.now _
  · rw [decide_eq_true (by omega)]; exact Ev.now _
theorem implCopies (l : List Pa) (h : l.length ≤ 1048576) (hx : ∀ x ∈ l, SmallPa x) : Ev (fun k => impl_copyEach_impl_Past_h0 k l) l := by
  refine Ev.step (fun k => impl_copyEach_impl_Past_h0_eq k l) ?_
  by_cases h0 : l.length = 0
  · have e : l = [] := List.eq_nil_of_length_eq_zero h0
    subst e
    exact Ev.now _
  · have h1 : ((l.length : Int) == 0) = false := by simp; intro e; exact h0 (by rw [e]; rfl)
    rw [h1]
    simp only [cond_false, Int.le_refl, decide_true, cond_true, Int.toNat_natCast]
    rw [decide_eq_true (by omega)]
    simp only [cond_true]
    refine EvL.ev (L := fun k j => impl_copyEach_impl_Past_h0_5 k j l (l.length : Int) 0 (List.replicate l.length (dflt t_impl_Past))) ?_
    refine (copy_loop (fun k j x i => impl_copyEach_impl_Past_h0_5 k j l (l.length : Int) (i : Int) x) l (dflt t_impl_Past) (dflt t_impl_Past) id (fun k j x => ?_) fun i hi => ⟨fun k => impl_copyPast k (l.getD i (dflt t_impl_Past)), implCopyPast _ (hx _ (getD_mem _ _ _ hi)), fun k j x hx => ?_⟩).to (List.map_id l)
    · rw [impl_copyEach_impl_Past_h0_5_eq, decide_eq_false (by omega)]; rfl
    · have c1 : (i : Int) < (l.length : Int) := by omega
      have c2 : (0 : Int) ≤ (i : Int) := by omega
      have c3 : (i : Int) < (x.length : Int) := by omega
      have c4 : i < x.length := by omega
      rw [impl_copyEach_impl_Past_h0_5_eq]
      simp only [decide_eq_true c1, decide_eq_true c2, decide_eq_true c3, decide_eq_true c4, cond_true, Int.toNat_natCast, w64n i (by omega)]
theorem implCopyLane (x : La) (h : SmallLa x) : Ev (fun k => impl_copyLane k x) x :=
  Ev.step (fun k => impl_copyLane_eq k x) (Ev.bind (implCopies _ h.1 h.2) (Ev.now _))

/-! ### what is settled -/
theorem lane_few {x : La} (h : laneM x = true) : x.2.2.length ≤ 100 ∧ ∀ y ∈ x.2.2, FewPa y := by
  unfold laneM at h
  simp only [Bool.and_eq_true, Bool.not_eq_true', decide_eq_false_iff_not] at h
  obtain ⟨_, _, h1, h2⟩ := h
  refine ⟨by omega, fun y hy => ?_⟩
  have := listM_all h2 y hy
  unfold pastM at this
  simp only [Bool.and_eq_true] at this
  obtain ⟨_, _, _, h3, h4⟩ := this
  obtain ⟨h5, h6⟩ := eventsM_all h3
  unfold outsM at h4
  simp only [Bool.and_eq_true, decide_eq_true_eq] at h4
  exact ⟨by omega, by omega, h6⟩
theorem small_tail {l : List Pa} {pre r : List Pa} (h : l = pre ++ r) (hl : l.length ≤ 1048576) (hx : ∀ y ∈ l, SmallPa y) : r.length ≤ 1048576 ∧ ∀ y ∈ r, SmallPa y := by
  refine ⟨by rw [h, List.length_append] at hl; omega, fun y hy => hx y ?_⟩
  rw [h]; exact List.mem_append_right _ hy
theorem cnt_tail {l pre r : List Pa} (h : l = pre ++ r) : sumN cntPa r ≤ sumN cntPa l := by
  rw [h]; unfold sumN; rw [List.map_append, List.sum_append]; omega
end Go.Proofs.Ytjgpacfhokpfdaa.SFnExactLaneCut
