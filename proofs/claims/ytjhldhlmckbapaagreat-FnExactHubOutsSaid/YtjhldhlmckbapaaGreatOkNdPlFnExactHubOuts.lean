/- A node that is ok, in its parts. -/
import Derived.Test.YtjhldhlmckbapaaGreatNodeEqPlFnExactHubOuts
import Derived.Test.YtjhldhlmckbapaaGreatNodeSzPlFnExactHubOuts
set_option linter.unusedVariables false
namespace Go.Proofs.YtjhldhlmckbapaaGreat.SFnExactHubOuts
open Go Go.Sx Go.Pl

/-- A node that is ok, in its parts. -/
structure OkNd (n : Nd) : Prop where
  fair : Fair n
  len : n.2.2.2.2.1.length = (procsM n.1).length
  views : n.2.2.2.2.2.2.2.2.2.1.length = 3
  known : n.2.2.2.2.2.2.2.2.2.2.1.length = 3
  lane : ∀ i, i < (procsM n.1).length → laneM (n.2.2.2.2.1.getD i dLa) = true ∧ (n.2.2.2.2.1.getD i dLa).1 = (procsM n.1).getD i (dflt t_int)
  evs : ∀ x ∈ sentM n.2.2.2.2.2.1 (doneM n) ++ otherM n.1 n.2.2.2.2.2.2.2.2.2.1, evM x = true
  come : ∀ i, i < (procsM n.1).length → (comeM n ((procsM n.1).getD i (dflt t_int))).length ≤ 100
theorem evM_all {l : List Ev7} {n : Int} (h : eventsM l n = true) : ∀ x ∈ l, evM x = true := by
  unfold eventsM at h
  simp only [Bool.and_eq_true] at h
  exact listM_all h.2
theorem evs_of (n : Nd) (hk : eventsM n.2.2.2.2.2.1 100 = true) (hv : n.2.2.2.2.2.2.2.2.2.1.length = 3) (hf : ∀ i, i < 3 → formAt n i = true) (hl : n.2.2.2.2.1.length = (procsM n.1).length) (ha : ∀ i, i < (procsM n.1).length → laneAt n i = true) : ∀ x ∈ sentM n.2.2.2.2.2.1 (doneM n) ++ otherM n.1 n.2.2.2.2.2.2.2.2.2.1, evM x = true := by
  intro e he
  unfold sentM at he
  rcases List.mem_append.1 he with he | he
  · rcases List.mem_append.1 he with he | he
    · exact evM_all hk e he
    · obtain ⟨d, hd, he⟩ := List.mem_flatMap.1 he
      obtain ⟨x, hx, rfl⟩ := List.mem_map.1 hd
      obtain ⟨y, hy, hey⟩ := List.mem_flatMap.1 he
      obtain ⟨i, hi, rfl⟩ := List.mem_iff_getElem.1 hx
      have := ha i (by omega)
      unfold laneAt at this
      simp only [Bool.and_eq_true] at this
      rw [getD_eq _ _ _ hi] at this
      have := this.1
      unfold laneM at this
      simp only [Bool.and_eq_true] at this
      have hy := listM_all this.2.2.2 y hy
      unfold pastM at hy
      simp only [Bool.and_eq_true] at hy
      exact evM_all hy.2.2.2.1 e hey
  · obtain ⟨i, hi, he⟩ := List.mem_flatMap.1 he
    have hi := List.mem_range.1 hi
    split at he
    · have := hf i (by omega)
      unfold formAt viewM at this
      simp only [Bool.and_eq_true] at this
      exact evM_all this.1.2.2 e he
    · cases he
theorem okNd (n : Nd) (h : nodeM n = true) : OkNd n := by
  unfold nodeM okTail at h
  simp only [Bool.and_eq_true, decide_eq_true_eq] at h
  obtain ⟨_, _, _, _, hk, _, hf, _, hl, hla, hag, _⟩ := h
  obtain ⟨hv, hkn, hff⟩ := forms_parts hf
  have ha := all_true hla
  refine ⟨fair n hk hv hff hl ha, hl, hv, hkn, fun i hi => ?_, evs_of n hk hv hff hl ha, fun i hi => ?_⟩
  · have := ha i hi
    unfold laneAt at this
    simp only [Bool.and_eq_true, decide_eq_true_eq] at this
    exact this
  · have := all_true hag i hi
    unfold agreeAt at this
    simp only [Bool.and_eq_true, Bool.not_eq_true', decide_eq_false_iff_not] at this
    omega
end Go.Proofs.YtjhldhlmckbapaaGreat.SFnExactHubOuts
