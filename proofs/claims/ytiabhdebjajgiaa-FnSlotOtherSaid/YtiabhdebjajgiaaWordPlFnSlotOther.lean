/- Whether a word is ok: the reference's WordOk and the program's are one plain function. Words measured, carried over, compared. -/
import Derived.Test.YtiabhdebjajgiaaLanePlFnSlotOther
set_option linter.unusedVariables false
set_option linter.unusedSimpArgs false
namespace Go.Proofs.Ytiabhdebjajgiaa.SFnSlotOther
open Go Go.Sx Go.Pl

abbrev Wo := Int × Int × Int × Int × Int × Int × Int × List Int × List Int × List Ev7 × List Ou5
def SmallWo (x : Wo) : Prop := x.2.2.2.2.2.2.2.1.length ≤ 1048576 ∧ x.2.2.2.2.2.2.2.2.1.length ≤ 1048576 ∧ x.2.2.2.2.2.2.2.2.2.1.length ≤ 1048576 ∧ x.2.2.2.2.2.2.2.2.2.2.length ≤ 1048576
def LongWo (x : Wo) : Prop := x.2.2.2.2.2.2.2.1.length ≤ maxLen ∧ x.2.2.2.2.2.2.2.2.1.length ≤ maxLen ∧ x.2.2.2.2.2.2.2.2.2.1.length ≤ maxLen ∧ x.2.2.2.2.2.2.2.2.2.2.length ≤ maxLen
def countsM (l : List Int) : Bool := (decide (l.length = 0) || decide (l.length = 3)) && l.all fun x => inB x 0 9999
theorem all_at {α : Type} (l : List α) (d : α) (p : α → Bool) : (List.range l.length).all (fun i => p (l.getD i d)) = l.all p := by
  have key : ∀ (m i : Nat), i + m = l.length → (List.range' i m).all (fun i => p (l.getD i d)) = (l.drop i).all p := by
    intro m
    induction m with
    | zero => intro i hi; rw [List.drop_of_length_le (by omega)]; rfl
    | succ m ih =>
      intro i hi
      rw [List.range'_succ, List.all_cons, ih (i + 1) (by omega), getD_drop l d i (by omega), List.all_cons]
  have := key l.length 0 (by omega)
  rw [List.range_eq_range', this, List.drop_zero]
def wordM (x : Wo) : Bool := inB x.1 1 7 && (inB x.2.1 0 2 && (inB x.2.2.1 0 2 && (inB x.2.2.2.1 0 9999 && (inB x.2.2.2.2.1 0 9999 && (inB x.2.2.2.2.2.1 0 9999 && (inB x.2.2.2.2.2.2.1 0 41 && (countsM x.2.2.2.2.2.2.2.1 && (countsM x.2.2.2.2.2.2.2.2.1 && (eventsM x.2.2.2.2.2.2.2.2.2.1 100 && outsM x.2.2.2.2.2.2.2.2.2.2 96)))))))))
/-! ### measured, carried over, compared -/
theorem sz_end {g : Nat → Option Int} {p : Prop} (h : ∃ r : Int, Ev g r ∧ r ≤ 1048576 ∧ (0 ≤ r → p)) : ∃ r : Int, Ev (fun k => (g k).bind fun u => cond (decide (u < 0)) (some (-1)) (some u)) r ∧ r ≤ 1048576 ∧ (0 ≤ r → p) := by
  obtain ⟨r, h1, h2, h3⟩ := h
  obtain ⟨r', h5, h6, h7⟩ := sz_and (q := True) (g := fun k u => some u) h1 h2 h3 fun _ => ⟨r, Ev.now _, h2, fun _ => trivial⟩
  exact ⟨r', h5, h6, fun h => (h7 h).1⟩
instance decWo0 : DecidableEq (List Int × List Int × List Ev7 × List Ou5) := fun a b => inferInstance
instance decWo1 : DecidableEq (Int × Int × Int × List Int × List Int × List Ev7 × List Ou5) := fun a b => inferInstance
instance decWo : DecidableEq Wo := fun a b => inferInstance
theorem ne_and {α : Type} [BEq α] [LawfulBEq α] {x y : α} {h : Nat → Option Bool} {q r : Prop} [Decidable q] [Decidable r] (hh : x = y → Ev h (decide q)) (e : r ↔ x = y ∧ q) : Ev (fun k => cond (x != y) (some false) (h k)) (decide r) := by
  by_cases hx : x = y
  · have : (x != y) = false := by subst hx; simp
    simp only [this, cond_false]
    exact (hh hx).to (by simp [e, hx])
  · have : (x != y) = true := bne_iff_ne.2 hx
    simp only [this, cond_true]
    exact (Ev.now _).to (by simp [e, hx])
end Go.Proofs.Ytiabhdebjajgiaa.SFnSlotOther
