/- What is left of a lane behind an undoing: the reference's LaneCut and the program's are one plain function. -/
import Derived.Test.YtjgpacfhokpfdaaSettlePlFnExactLaneCut
set_option linter.unusedVariables false
set_option linter.unusedSimpArgs false
namespace Go.Proofs.Ytjgpacfhokpfdaa.SFnExactLaneCut
open Go Go.Sx Go.Pl

theorem same_F : ∀ (l : List Pa) (m : List Ev7), sameF l m = sameM l m
  | [], _ => rfl
  | _ :: _, [] => rfl
  | x :: l, y :: m => by
    show (if x.1 = y then sameF l m + 1 else 0) = (if x.1 = y then sameM l m + 1 else 0)
    rw [same_F l m]
theorem specCopyTo (x : La) (n : Nat) (p q r s : Int) (post : List Pa) (l : List Pa) : ∀ (pre acc : List Pa), x.2.2 = pre ++ (l ++ post) → n = pre.length + l.length → x.2.2.length ≤ 1048576 → acc.length + l.length ≤ 1048576 → (∀ y ∈ l, FewPa y) →
    EvL (fun k j => spec_l21Copy_3 k j (n : Int) (pre.length : Int) x 0 0 0 0 p q r s [] acc) (p, (q, r, s), acc ++ l) := by
  induction l with
  | nil =>
    intro pre acc hx hm hn ha hf
    refine (EvL.step (M := fun _ _ => some (p, (q, r, s), acc)) (fun k j => ?_) (EvL.now _)).to (by simp)
    rw [List.length_nil] at hm
    rw [spec_l21Copy_3_eq, decide_eq_false (by omega), cond_false]
  | cons y l ih =>
    intro pre acc hx hm hn ha hf
    obtain ⟨f1, f2, _⟩ := hf y (List.mem_cons_self ..)
    rw [List.length_cons] at ha hm
    have hlen : x.2.2.length = pre.length + (l.length + 1 + post.length) := by rw [hx]; simp; omega
    have c0 : (pre.length : Int) < (n : Int) := by omega
    have c1 : (pre.length : Int) < (x.2.2.length : Int) := by omega
    have c2 : (0 : Int) ≤ (pre.length : Int) := by omega
    have hg : x.2.2.getD pre.length (dflt t_impl_Past) = y := by rw [hx]; exact at_mid pre y _ (l ++ post)
    have c3 : (0 + y.2.2.1.length) * 56 ≤ 140737488351232 := by omega
    have c4 : (0 + y.2.2.2.length) * 40 ≤ 140737488351232 := by omega
    have c5 : (acc.length + 1) * 128 ≤ 140737488351232 := by omega
    have := ih (pre ++ [y]) (acc ++ [y]) (by rw [hx, List.append_assoc]; rfl) (by rw [List.length_append, List.length_singleton]; omega) hn (by rw [List.length_append, List.length_singleton]; omega) fun z hz => hf z (List.mem_cons_of_mem _ hz)
    rw [List.length_append, List.length_singleton, List.append_assoc] at this
    refine EvL.step (fun k j => ?_) this
    rw [spec_l21Copy_3_eq]
    simp only [decide_eq_true c0, decide_eq_true c1, decide_eq_true c2, cond_true, Int.toNat_natCast, hg, decide_eq_true c3, decide_eq_true c4, decide_eq_true c5, w64n pre.length (by omega), List.nil_append]
theorem specCopyN (x : La) (n : Nat) (h : n ≤ x.2.2.length) (hn : x.2.2.length ≤ 1048576) (hf : ∀ y ∈ x.2.2, FewPa y) : Ev (fun k => spec_l21Copy k x 0 (n : Int)) (x.1, x.2.1, x.2.2.take n) := by
  have hl : (x.2.2.take n).length = n := by rw [List.length_take]; omega
  exact Ev.step (fun k => spec_l21Copy_eq k x _ _) (EvL.ev (L := fun k j => spec_l21Copy_3 k j (n : Int) 0 x 0 0 0 0 x.1 x.2.1.1 x.2.1.2.1 x.2.1.2.2 [] []) (specCopyTo x n x.1 x.2.1.1 x.2.1.2.1 x.2.1.2.2 (x.2.2.drop n) (x.2.2.take n) [] [] (by simp) (by simp; omega) hn (by simp; omega) fun y hy => hf y (List.mem_of_mem_take hy)))
def cutM (x : La) (came : List Ev7) : La × Bool := if laneM x = true ∧ cameM x came = true then ((x.1, x.2.1, x.2.2.take (sameM x.2.2 came)), decide (sameM x.2.2 came < x.2.2.length)) else ((0, (0, 0, 0), []), false)
theorem specCut (x : La) (came : List Ev7) (h : SmallLa x) (hc : came.length ≤ 1048576) : Ev (fun k => spec_LaneCut k x came) (cutM x came) := by
  have h2 := same_le1 x.2.2 came
  unfold cutM
  refine Ev.step (fun k => spec_LaneCut_eq k x came) (Ev.bind (specLane_ev x h) (Ev.cond (fun h0 => (Ev.now _).to ?_) fun h0 => Ev.bind (specCame x came h hc) (Ev.cond (fun h0' => (Ev.now _).to ?_) fun h0' => Ev.bind (specSame x came h hc) (Ev.bind (specCopyN x _ h2 h.1 (lane_few (nf h0)).2) ((Ev.now _).to ?_)))))
  · rw [if_neg (by rintro ⟨e, _⟩; rw [e] at h0; cases h0)]
  · rw [if_neg (by rintro ⟨_, e⟩; rw [e] at h0'; cases h0')]
  · rw [if_pos ⟨nf h0, nf h0'⟩]
    have e : decide (((sameM x.2.2 came : Nat) : Int) < (x.2.2.length : Int)) = decide (sameM x.2.2 came < x.2.2.length) := by congr 1; exact propext (by omega)
    rw [e]
theorem implCutIn (x : La) (came : List Ev7) (h : SmallLa x) (hc : came.length ≤ 1048576) : Ev (fun k => impl_laneCut k x came) ((x.1, x.2.1, x.2.2.take (sameM x.2.2 came)), decide (sameM x.2.2 came < x.2.2.length)) := by
  have h1 := h.1
  refine Ev.step (fun k => impl_laneCut_eq k x came) ?_
  rw [decide_eq_true h1, decide_eq_true hc]
  refine (Ev.now _).to ?_
  unfold cutF
  rw [same_F]
theorem implCut (x : La) (came : List Ev7) (h : SmallLa x) (hc : came.length ≤ 1048576) : Ev (fun k => impl_LaneCut k x came) (cutM x came) := by
  unfold cutM
  refine Ev.step (fun k => impl_LaneCut_eq k x came) (Ev.bind (implLane_ev x h) (Ev.cond (fun h0 => (Ev.now _).to ?_) fun h0 => Ev.bind (implCame x came h hc) (Ev.cond (fun h0' => (Ev.now _).to ?_) fun h0' => Ev.bind (implCutIn x came h hc) (Ev.bind (implCopyLane _ ⟨?_, ?_⟩) ((Ev.now _).to ?_)))))
  · rw [if_neg (by rintro ⟨e, _⟩; rw [e] at h0; cases h0)]
  · rw [if_neg (by rintro ⟨_, e⟩; rw [e] at h0'; cases h0')]
  · have := h.1; show (x.2.2.take _).length ≤ 1048576; rw [List.length_take]; omega
  · exact fun y hy => h.2 y (List.mem_of_mem_take hy)
  · rw [if_pos ⟨nf h0, nf h0'⟩]
theorem cut_small (x : La) (came : List Ev7) (hs : SmallLa x) : SmallLa (cutM x came).1 ∧ sumN cntPa (cutM x came).1.2.2 ≤ sumN cntPa x.2.2 := by
  unfold cutM
  split
  · refine ⟨⟨by have := hs.1; show (x.2.2.take _).length ≤ 1048576; rw [List.length_take]; omega, fun y hy => hs.2 y (List.mem_of_mem_take hy)⟩, ?_⟩
    show sumN cntPa (x.2.2.take _) ≤ _
    have e : sumN cntPa x.2.2 = sumN cntPa (x.2.2.take (sameM x.2.2 came)) + sumN cntPa (x.2.2.drop (sameM x.2.2 came)) := by
      unfold sumN
      rw [← List.sum_append, ← List.map_append, List.take_append_drop]
    omega
  · exact ⟨⟨by simp, fun y hy => absurd hy (List.not_mem_nil)⟩, by simp [sumN]⟩
end Go.Proofs.Ytjgpacfhokpfdaa.SFnExactLaneCut
