/- How far a lane agrees with what has come: the reference's count and the program's are one plain function; so is what is next. -/
import Derived.Test.YtjgpacfhokpfdaaLanePlFnExactLaneCut
set_option linter.unusedVariables false
set_option linter.unusedSimpArgs false
namespace Go.Proofs.Ytjgpacfhokpfdaa.SFnExactLaneCut
open Go Go.Sx Go.Pl

def sameM : List Pa → List Ev7 → Nat
  | p :: ps, e :: es => if p.1 = e then sameM ps es + 1 else 0
  | _, _ => 0
theorem same_le1 : ∀ (a : List Pa) (b : List Ev7), sameM a b ≤ a.length
  | [], _ => Nat.le_refl _
  | _ :: _, [] => Nat.zero_le _
  | p :: ps, e :: es => by
    unfold sameM
    split
    · have := same_le1 ps es; simp; omega
    · omega
theorem same_le2 : ∀ (a : List Pa) (b : List Ev7), sameM a b ≤ b.length
  | [], _ => Nat.zero_le _
  | _ :: _, [] => Nat.le_refl _
  | p :: ps, e :: es => by
    unfold sameM
    split
    · have := same_le2 ps es; simp; omega
    · omega
theorem evEq (a b : Ev7) : (a.1 == b.1 && (a.2.1 == b.2.1 && (a.2.2.1 == b.2.2.1 && (a.2.2.2.1 == b.2.2.2.1 && (a.2.2.2.2.1 == b.2.2.2.2.1 && (a.2.2.2.2.2.1 == b.2.2.2.2.2.1 && (a.2.2.2.2.2.2 == b.2.2.2.2.2.2 && true))))))) = decide (a = b) := by
  obtain ⟨a1, a2, a3, a4, a5, a6, a7⟩ := a
  obtain ⟨b1, b2, b3, b4, b5, b6, b7⟩ := b
  rw [Bool.eq_iff_iff]
  simp
theorem same_at (done : List Pa) (came : List Ev7) (i : Nat) (h1 : i < done.length) (h2 : i < came.length) :
    sameM (done.drop i) (came.drop i) = if (done.getD i (dflt t_impl_Past)).1 = came.getD i (dflt t_impl_Event) then sameM (done.drop (i + 1)) (came.drop (i + 1)) + 1 else 0 := by
  rw [getD_drop done (dflt t_impl_Past) i h1, getD_drop came (dflt t_impl_Event) i h2]
  rfl
theorem same_end (done : List Pa) (came : List Ev7) (i : Nat) (h : done.length ≤ i ∨ came.length ≤ i) : sameM (done.drop i) (came.drop i) = 0 := by
  rcases h with h | h
  · rw [List.drop_of_length_le h]; rfl
  · rw [List.drop_of_length_le h]; cases done.drop i <;> rfl
theorem specSame (x : La) (came : List Ev7) (h : SmallLa x) (hc : came.length ≤ 1048576) : Ev (fun k => spec_l21Same k x came) (sameM x.2.2 came : Int) := by
  refine Ev.step (fun k => spec_l21Same_eq k x came) (EvL.ev (L := fun k j => spec_l21Same_2 k j came 0 x) ?_)
  have hl := h.1
  have key := loop_up (fun k j i => spec_l21Same_2 k j came (i : Int) x) (min x.2.2.length came.length) (fun i => ((i + sameM (x.2.2.drop i) (came.drop i) : Nat) : Int)) ?_ (fun i hi hrest => ?_) 0 (Nat.zero_le _)
  · simpa using key
  · refine EvL.step (M := fun _ _ => some ((min x.2.2.length came.length : Nat) : Int)) (fun k j => ?_) ((EvL.now _).to (by rw [same_end _ _ _ (by omega)]; simp))
    rw [spec_l21Same_2_eq]
    by_cases h1 : x.2.2.length ≤ came.length
    · have e : min x.2.2.length came.length = x.2.2.length := Nat.min_eq_left h1
      rw [e, decide_eq_false (by omega)]
      rfl
    · have e : min x.2.2.length came.length = came.length := Nat.min_eq_right (by omega)
      rw [e, decide_eq_true (by omega : (came.length : Int) < x.2.2.length), decide_eq_false (by omega : ¬ (came.length : Int) < came.length)]
      rfl
  · have h1 : i < x.2.2.length := by omega
    have h2 : i < came.length := by omega
    have c1 : (i : Int) < (x.2.2.length : Int) := by omega
    have c2 : (0 : Int) ≤ (i : Int) := by omega
    have c3 : (i : Int) < (came.length : Int) := by omega
    refine EvL.step (M := fun k j => cond (decide ((x.2.2.getD i (dflt t_impl_Past)).1 = came.getD i (dflt t_impl_Event))) (spec_l21Same_2 k j came ((i + 1 : Nat) : Int) x) (some (i : Int))) (fun k j => ?_) (EvL.cond (fun hb => hrest.to ?_) fun hb => (EvL.now _).to ?_)
    · rw [spec_l21Same_2_eq]
      simp only [decide_eq_true c1, decide_eq_true c2, decide_eq_true c3, cond_true, Int.toNat_natCast, w64n i (by omega)]
      rw [evEq]
    · show ((i + 1 + sameM (x.2.2.drop (i + 1)) (came.drop (i + 1)) : Nat) : Int) = ((i + sameM (x.2.2.drop i) (came.drop i) : Nat) : Int)
      rw [same_at _ _ _ h1 h2, if_pos (of_decide_eq_true hb)]
      congr 1; omega
    · show (i : Int) = ((i + sameM (x.2.2.drop i) (came.drop i) : Nat) : Int)
      rw [same_at _ _ _ h1 h2, if_neg (of_decide_eq_false hb)]
      rfl
def toB (x : La) (came : List Ev7) : Bool := (List.range came.length).all fun i => decide ((came.getD i (dflt t_impl_Event)).2.1 = x.1)
def cameM (x : La) (came : List Ev7) : Bool := eventsM came 100 && toB x came
theorem ne_dec (a b : Int) : (a != b) = !decide (a = b) := by
  by_cases h : a = b <;> simp [h]
theorem specCame (x : La) (came : List Ev7) (h : SmallLa x) (hc : came.length ≤ 1048576) : Ev (fun k => spec_l21Came k x came) (cameM x came) := by
  refine Ev.step (fun k => spec_l21Came_eq k x came) (Ev.bind (Ev.of 1 fun m => spec_l2Most_eq m) (Ev.and (specEvents_ev _ _ hc) fun _ => EvL.ev (L := fun k j => spec_l21Came_4 k j came 0 x) ?_))
  refine all_loop (fun k j i => spec_l21Came_4 k j came (i : Int) x) came (dflt t_impl_Event) (fun i => decide ((came.getD i (dflt t_impl_Event)).2.1 = x.1)) (fun k j => ?_) fun i hi rest hrest => ?_
  · rw [spec_l21Came_4_eq, decide_eq_false (by omega)]; rfl
  · have c1 : (i : Int) < (came.length : Int) := by omega
    have c2 : (0 : Int) ≤ (i : Int) := by omega
    refine EvL.step (M := fun k j => cond (!decide ((came.getD i (dflt t_impl_Event)).2.1 = x.1)) (some false) (spec_l21Came_4 k j came ((i + 1 : Nat) : Int) x)) (fun k j => ?_) ((EvL.andn fun _ => hrest).to (by simp))
    rw [spec_l21Came_4_eq]
    simp only [decide_eq_true c1, decide_eq_true c2, cond_true, Int.toNat_natCast, w64n i (by omega)]
    rw [ne_dec]
set_option maxRecDepth 20000 in
theorem implCame (x : La) (came : List Ev7) (h : SmallLa x) (hc : came.length ≤ 1048576) : Ev (fun k => impl_cameFits k x came) (cameM x came) := by
  refine (Ev.step (fun k => impl_cameFits_eq k x came) (EvL.ev (L := fun k j => impl_cameFits_2 k j came came (came.length : Int) 0 x) ?_)).to (Bool.and_comm (toB x came) (eventsM came 100))
  have key := loop_up (fun k j i => impl_cameFits_2 k j came came (came.length : Int) (i : Int) x) came.length (fun i => ((List.range' i (came.length - i)).all fun i => decide ((came.getD i (dflt t_impl_Event)).2.1 = x.1)) && eventsM came 100) ?_ (fun i hi hrest => ?_) 0 (Nat.zero_le _)
  · simpa [toB, List.range_eq_range'] using key
  · refine EvL.step (M := fun k j => (impl_eventsOk k came 100).bind fun x0 => some x0) (fun k j => ?_) ((EvL.bind (implEvents_ev _ _ hc) (EvL.now _)).to (by simp))
    rw [impl_cameFits_2_eq, decide_eq_false (by omega)]; rfl
  · have c1 : (i : Int) < (came.length : Int) := by omega
    have c2 : (0 : Int) ≤ (i : Int) := by omega
    obtain ⟨m, hm⟩ : ∃ m, came.length - i = m + 1 := ⟨came.length - i - 1, by omega⟩
    have hm2 : came.length - (i + 1) = m := by omega
    rw [hm2] at hrest
    refine EvL.step (M := fun k j => cond (!decide ((came.getD i (dflt t_impl_Event)).2.1 = x.1)) (some false) (impl_cameFits_2 k j came came (came.length : Int) ((i + 1 : Nat) : Int) x)) (fun k j => ?_) ((EvL.andn fun _ => hrest).to ?_)
    · rw [impl_cameFits_2_eq]
      simp only [decide_eq_true c1, decide_eq_true c2, cond_true, Int.toNat_natCast, w64n i (by omega)]
      rw [ne_dec]
    · rw [hm, List.range'_succ, List.all_cons, Bool.not_not, Bool.and_assoc]
/-- What is next, of a lane that agrees. -/
def nextM (x : La) (came : List Ev7) : Ev7 × Bool := if sameM x.2.2 came < x.2.2.length ∨ came.length ≤ sameM x.2.2 came then ((0, 0, 0, 0, 0, 0, 0), false) else (came.getD (sameM x.2.2 came) (dflt t_impl_Event), true)
def nextLM (x : La) (came : List Ev7) : Ev7 × Bool := if laneM x = true ∧ cameM x came = true then nextM x came else ((0, 0, 0, 0, 0, 0, 0), false)
end Go.Proofs.Ytjgpacfhokpfdaa.SFnExactLaneCut
