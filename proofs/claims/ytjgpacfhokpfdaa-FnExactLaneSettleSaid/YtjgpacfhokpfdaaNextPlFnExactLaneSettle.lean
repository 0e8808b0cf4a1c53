/- How far a lane agrees with what has come: the reference's count and the program's are one plain function; so is what is next. -/
import Derived.Test.YtjgpacfhokpfdaaLanePlFnExactLaneSettle
set_option linter.unusedVariables false
set_option linter.unusedSimpArgs false
namespace Go.Proofs.Ytjgpacfhokpfdaa.SFnExactLaneSettle
open Go Go.Sx Go.Pl

def sameM : List Pa → List Ev7 → Nat
  | p :: ps, e :: es => if p.1 = e then sameM ps es + 1 else 0
  | _, _ => 0
theorem same_le1 : ∀ (a : List Pa) (b : List Ev7), sameM a b ≤ a.length
  | [], _ => Nat.le_refl _
  | _ :: _, [] => Nat.zero_le _
  | p :: ps, e :: es => by
    unfold sameM
    split
    · have := same_le1 ps es; simp; omega
    · omega
theorem same_le2 : ∀ (a : List Pa) (b : List Ev7), sameM a b ≤ b.length
  | [], _ => Nat.zero_le _
  | _ :: _, [] => Nat.le_refl _
  | p :: ps, e :: es => by
    unfold sameM
    split
    · have := same_le2 ps es; simp; omega
    · omega
theorem evEq (a b : Ev7) : (a.1 == b.1 && (a.2.1 == b.2.1 && (a.2.2.1 == b.2.2.1 && (a.2.2.2.1 == b.2.2.2.1 && (a.2.2.2.2.1 == b.2.2.2.2.1 && (a.2.2.2.2.2.1 == b.2.2.2.2.2.1 && (a.2.2.2.2.2.2 == b.2.2.2.2.2.2 && true))))))) = decide (a = b) := by
  obtain ⟨a1, a2, a3, a4, a5, a6, a7⟩ := a
  obtain ⟨b1, b2, b3, b4, b5, b6, b7⟩ := b
  rw [Bool.eq_iff_iff]
  simp
theorem same_at (done : List Pa) (came : List Ev7) (i : Nat) (h1 : i < done.length) (h2 : i < came.length) :
    sameM (done.drop i) (came.drop i) = if (done.getD i (dflt t_impl_Past)).1 = came.getD i (dflt t_impl_Event) then sameM (done.drop (i + 1)) (came.drop (i + 1)) + 1 else 0 := by
  rw [getD_drop done (dflt t_impl_Past) i h1, getD_drop came (dflt t_impl_Event) i h2]
  rfl
theorem same_end (done : List Pa) (came : List Ev7) (i : Nat) (h : done.length ≤ i ∨ came.length ≤ i) : sameM (done.drop i) (came.drop i) = 0 := by
  rcases h with h | h
  · rw [List.drop_of_length_le h]; rfl
  · rw [List.drop_of_length_le h]; cases done.drop i <;> rfl
def toB (x : La) (came : List Ev7) : Bool := (List.range came.length).all fun i => decide ((came.getD i (dflt t_impl_Event)).2.1 = x.1)
def cameM (x : La) (came : List Ev7) : Bool := eventsM came 100 && toB x came
theorem ne_dec (a b : Int) : (a != b) = !decide (a = b) := by
  by_cases h : a = b <;> simp [h]
/-- What is next, of a lane that agrees. -/
def nextM (x : La) (came : List Ev7) : Ev7 × Bool := if sameM x.2.2 came < x.2.2.length ∨ came.length ≤ sameM x.2.2 came then ((0, 0, 0, 0, 0, 0, 0), false) else (came.getD (sameM x.2.2 came) (dflt t_impl_Event), true)
def nextLM (x : La) (came : List Ev7) : Ev7 × Bool := if laneM x = true ∧ cameM x came = true then nextM x came else ((0, 0, 0, 0, 0, 0, 0), false)
end Go.Proofs.Ytjgpacfhokpfdaa.SFnExactLaneSettle
