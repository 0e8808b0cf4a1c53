/- Whether a word is ok: the reference's WordOk and the program's are one plain function. Words measured, carried over, compared. -/
import Derived.Test.YtjgpacfhokpfdaaLanePlFnWordBack
set_option linter.unusedVariables false
set_option linter.unusedSimpArgs false
namespace Go.Proofs.Ytjgpacfhokpfdaa.SFnWordBack
open Go Go.Sx Go.Pl

abbrev Wo := Int × Int × Int × Int × Int × Int × Int × List Int × List Int × List Ev7 × List Ou5
def SmallWo (x : Wo) : Prop := x.2.2.2.2.2.2.2.1.length ≤ 1048576 ∧ x.2.2.2.2.2.2.2.2.1.length ≤ 1048576 ∧ x.2.2.2.2.2.2.2.2.2.1.length ≤ 1048576 ∧ x.2.2.2.2.2.2.2.2.2.2.length ≤ 1048576
def LongWo (x : Wo) : Prop := x.2.2.2.2.2.2.2.1.length ≤ maxLen ∧ x.2.2.2.2.2.2.2.2.1.length ≤ maxLen ∧ x.2.2.2.2.2.2.2.2.2.1.length ≤ maxLen ∧ x.2.2.2.2.2.2.2.2.2.2.length ≤ maxLen
def countsM (l : List Int) : Bool := (decide (l.length = 0) || decide (l.length = 3)) && l.all fun x => inB x 0 9999
theorem all_at {α : Type} (l : List α) (d : α) (p : α → Bool) : (List.range l.length).all (fun i => p (l.getD i d)) = l.all p := by
  have key : ∀ (m i : Nat), i + m = l.length → (List.range' i m).all (fun i => p (l.getD i d)) = (l.drop i).all p := by
    intro m
    induction m with
    | zero => intro i hi; rw [List.drop_of_length_le (by omega)]; rfl
    | succ m ih =>
      intro i hi
      rw [List.range'_succ, List.all_cons, ih (i + 1) (by omega), getD_drop l d i (by omega), List.all_cons]
  have := key l.length 0 (by omega)
  rw [List.range_eq_range', this, List.drop_zero]
theorem specCounts (l : List Int) (h : l.length ≤ 1048576) : Ev (fun k => spec_l23List k l) (countsM l) := by
  have key : EvL (fun k j => spec_l23List_4 k j l 0) (l.all fun x => inB x 0 9999) := by
    rw [← all_at l (dflt t_int) fun x => inB x 0 9999]
    refine all_loop (fun k j i => spec_l23List_4 k j l (i : Int)) l (dflt t_int) _ (fun k j => ?_) fun i hi rest hr => ?_
    · rw [spec_l23List_4_eq, decide_eq_false (by omega)]; rfl
    · have c1 : (i : Int) < (l.length : Int) := by omega
      have c2 : (0 : Int) ≤ (i : Int) := by omega
      refine EvL.step (fun k j => spec_l23List_4_eq k j l (i : Int)) ?_
      simp only [decide_eq_true c1, decide_eq_true c2, cond_true, Int.toNat_natCast, w64n i (by omega)]
      exact EvL.bind (Ev.of 1 fun m => spec_l22Max_eq m) (EvL.and (Ev.of 1 fun m => specIn m _ _ _) fun _ => hr)
  refine Ev.step (fun k => spec_l23List_eq k l) ?_
  unfold countsM
  by_cases h0 : l.length = 0
  · have e0 : ((l.length : Int) != 0) = false := by rw [h0]; rfl
    simp only [e0, cond_false, decide_eq_true h0, Bool.true_or, Bool.true_and]
    exact key.ev
  · have e0 : ((l.length : Int) != 0) = true := bne_iff_ne.2 (by omega)
    simp only [e0, cond_true, decide_eq_false h0, Bool.false_or]
    by_cases h3 : l.length = 3
    · have e3 : ((l.length : Int) != 3) = false := by rw [h3]; rfl
      simp only [e3, cond_false, decide_eq_true h3, Bool.true_and]
      exact key.ev
    · have e3 : ((l.length : Int) != 3) = true := bne_iff_ne.2 (by omega)
      simp only [e3, cond_true, decide_eq_false h3, Bool.false_and]
      exact Ev.now _
theorem implCounts (l : List Int) (h : l.length ≤ 1048576) : Ev (fun k => impl_countsOk k l) (countsM l) := by
  refine Ev.step (fun k => impl_countsOk_eq k l) ?_
  refine EvL.ev (L := fun k j => impl_countsOk_2 k j l l (l.length : Int) 0) ?_
  have := loop_up (fun k j i => impl_countsOk_2 k j l l (l.length : Int) (i : Int)) l.length (fun i => (l.drop i).all (fun x => inB x 0 9999) && (decide (l.length = 0) || decide (l.length = 3))) ?_ (fun i hi hr => ?_) 0 (by omega)
  · refine EvL.to this ?_
    rw [List.drop_zero, Bool.and_comm]; rfl
  · refine EvL.step (M := fun _ _ => cond ((l.length : Int) == 0) (some true) (some ((l.length : Int) == 3))) (fun k j => ?_) ?_
    · rw [impl_countsOk_2_eq, decide_eq_false (by omega), cond_false]
    · rw [List.drop_length]
      simp only [cS]
      refine (EvL.now _).to ?_
      by_cases h0 : l.length = 0
      · have e0 : ((l.length : Int) == 0) = true := by rw [h0]; rfl
        simp [e0, h0]
      · have e0 : ((l.length : Int) == 0) = false := beq_false_of_ne (by omega)
        by_cases h3 : l.length = 3
        · have e3 : ((l.length : Int) == 3) = true := by rw [h3]; rfl
          simp [e0, e3, h3]
        · have e3 : ((l.length : Int) == 3) = false := beq_false_of_ne (by omega)
          simp [e0, e3, h0, h3]
  · have c1 : (i : Int) < (l.length : Int) := by omega
    have c2 : (0 : Int) ≤ (i : Int) := by omega
    refine EvL.step (fun k j => impl_countsOk_2_eq k j l l (l.length : Int) (i : Int)) ?_
    simp only [decide_eq_true c1, decide_eq_true c2, cond_true, Int.toNat_natCast, w64n i (by omega)]
    rw [getD_drop l (dflt t_int) i hi, List.all_cons, Bool.and_assoc]
    exact EvL.and (Ev.of 1 fun m => implIn m _ _ _) fun _ => hr
def wordM (x : Wo) : Bool := inB x.1 1 7 && (inB x.2.1 0 2 && (inB x.2.2.1 0 2 && (inB x.2.2.2.1 0 9999 && (inB x.2.2.2.2.1 0 9999 && (inB x.2.2.2.2.2.1 0 9999 && (inB x.2.2.2.2.2.2.1 0 41 && (countsM x.2.2.2.2.2.2.2.1 && (countsM x.2.2.2.2.2.2.2.2.1 && (eventsM x.2.2.2.2.2.2.2.2.2.1 100 && outsM x.2.2.2.2.2.2.2.2.2.2 96)))))))))
theorem specWord (x : Wo) (h : SmallWo x) : Ev (fun k => spec_WordOk k x) (wordM x) := by
  refine Ev.step (fun k => spec_WordOk_eq k x) ?_
  refine Ev.and' (Ev.of 1 fun m => specIn m _ _ _) fun _ => Ev.and' (Ev.of 1 fun m => specIn m _ _ _) fun _ => Ev.and' (Ev.of 1 fun m => specIn m _ _ _) fun _ => Ev.bind (Ev.of 1 fun m => spec_l22Max_eq m) (Ev.and' (Ev.of 1 fun m => specIn m _ _ _) fun _ => Ev.bind (Ev.of 1 fun m => spec_l22Max_eq m) (Ev.and' (Ev.of 1 fun m => specIn m _ _ _) fun _ => Ev.bind (Ev.of 1 fun m => spec_l22Max_eq m) (Ev.and' (Ev.of 1 fun m => specIn m _ _ _) fun _ => ?_)))
  exact Ev.and' (Ev.of 1 fun m => specIn m _ _ _) fun _ => Ev.and' (specCounts _ h.1) fun _ => Ev.and' (specCounts _ h.2.1) fun _ => Ev.bind (Ev.of 1 fun m => spec_l2Most_eq m) (Ev.and' (specEvents_ev _ _ h.2.2.1) fun _ => Ev.bind (specOuts_ev _ _ h.2.2.2) (Ev.now _))
theorem implNode (k : Nat) (x : Int) : impl_isNode (k + 2) x = some (inB x 0 2) := by rw [impl_isNode_eq, implIn]; rfl
theorem implWord (x : Wo) (h : SmallWo x) : Ev (fun k => impl_WordOk k x) (wordM x) := by
  refine Ev.step (fun k => impl_WordOk_eq k x) ?_
  refine Ev.and' (Ev.of 1 fun m => implIn m _ _ _) fun _ => Ev.and' (Ev.of 2 fun m => implNode m _) fun _ => Ev.and' (Ev.of 2 fun m => implNode m _) fun _ => Ev.and' (Ev.of 1 fun m => implIn m _ _ _) fun _ => Ev.and' (Ev.of 1 fun m => implIn m _ _ _) fun _ => Ev.and' (Ev.of 1 fun m => implIn m _ _ _) fun _ => ?_
  exact Ev.and' (Ev.of 1 fun m => implIn m _ _ _) fun _ => Ev.and' (implCounts _ h.1) fun _ => Ev.and' (implCounts _ h.2.1) fun _ => Ev.and' (implEvents_ev _ _ h.2.2.1) fun _ => Ev.bind (implOuts_ev _ _ h.2.2.2) (Ev.now _)

/-! ### measured, carried over, compared -/
theorem sz_end {g : Nat → Option Int} {p : Prop} (h : ∃ r : Int, Ev g r ∧ r ≤ 1048576 ∧ (0 ≤ r → p)) : ∃ r : Int, Ev (fun k => (g k).bind fun u => cond (decide (u < 0)) (some (-1)) (some u)) r ∧ r ≤ 1048576 ∧ (0 ≤ r → p) := by
  obtain ⟨r, h1, h2, h3⟩ := h
  obtain ⟨r', h5, h6, h7⟩ := sz_and (q := True) (g := fun k u => some u) h1 h2 h3 fun _ => ⟨r, Ev.now _, h2, fun _ => trivial⟩
  exact ⟨r', h5, h6, fun h => (h7 h).1⟩
instance decWo0 : DecidableEq (List Int × List Int × List Ev7 × List Ou5) := fun a b => inferInstance
instance decWo1 : DecidableEq (Int × Int × Int × List Int × List Int × List Ev7 × List Ou5) := fun a b => inferInstance
instance decWo : DecidableEq Wo := fun a b => inferInstance
theorem ne_and {α : Type} [BEq α] [LawfulBEq α] {x y : α} {h : Nat → Option Bool} {q r : Prop} [Decidable q] [Decidable r] (hh : x = y → Ev h (decide q)) (e : r ↔ x = y ∧ q) : Ev (fun k => cond (x != y) (some false) (h k)) (decide r) := by
  by_cases hx : x = y
  · have : (x != y) = false := by subst hx; simp
    simp only [this, cond_false]
    exact (hh hx).to (by simp [e, hx])
  · have : (x != y) = true := bne_iff_ne.2 hx
    simp only [this, cond_true]
    exact (Ev.now _).to (by simp [e, hx])
end Go.Proofs.Ytjgpacfhokpfdaa.SFnWordBack
