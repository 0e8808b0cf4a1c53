/- Loops that mark: how far they count. -/
import Derived.Test.YtiabhdebjajgiaaSzPlFnSlotOther
set_option linter.unusedVariables false
set_option linter.unusedSimpArgs false
namespace Go.Proofs.Ytiabhdebjajgiaa.SFnSlotOther
open Go Go.Sx Go.Pl

theorem modify_drop {α : Type} (l : List α) (i : Nat) (f : α → α) : (l.modify i f).drop (i + 1) = l.drop (i + 1) := by
  rw [List.drop_modify_of_lt]; omega
theorem set_drop {α : Type} (l : List α) (i : Nat) (x : α) : (l.set i x).drop (i + 1) = l.drop (i + 1) := by
  rw [List.drop_set_of_lt]; omega
theorem modify_getD {α : Type} (l : List α) (i : Nat) (f : α → α) (d : α) (h : i < l.length) : (l.modify i f).getD i d = f (l.getD i d) := by
  rw [List.getD_eq_getElem?_getD, List.getD_eq_getElem?_getD, List.getElem?_modify_eq, List.getElem?_eq_getElem h]; rfl
theorem tens {y : Int} (h0 : 0 ≤ y) (h1 : y ≤ 1000000000) : IntKind.i64.wrap (y + 1) = y + 1 ∧ IntKind.i64.wrap (y + 1 + 1) = y + 2 ∧ IntKind.i64.wrap (y + 2 + 1) = y + 3 ∧ IntKind.i64.wrap (y + 3 + 1) = y + 4 ∧ IntKind.i64.wrap (y + 4 + 1) = y + 5 ∧
    IntKind.i64.wrap (y + 5 + 1) = y + 6 ∧ IntKind.i64.wrap (y + 6 + 1) = y + 7 ∧ IntKind.i64.wrap (y + 7 + 1) = y + 8 ∧ IntKind.i64.wrap (y + 8 + 1) = y + 9 ∧ IntKind.i64.wrap (y + 9 + 1) = y + 10 := by
  refine ⟨?_, ?_, ?_, ?_, ?_, ?_, ?_, ?_, ?_, ?_⟩ <;> rw [w64 (by omega) (by omega)] <;> omega
/-- A loop that marks, element by element: how far it counts. -/
theorem mark_loop {α : Type} (L : Nat → Nat → Int → Nat → List α → Option (Int × List α × Unit)) (f : α → Nat) (d : α) (n : Nat) (hend : ∀ k j y xs, xs.length = n → L k (j + 1) y n xs = some (y, xs, ()))
    (hstep : ∀ (i : Nat) (y : Int) (xs : List α) (Q : Int × List α × Unit → Prop), i < n → xs.length = n → 0 ≤ y → y + (f (xs.getD i d) : Int) ≤ 100000000 →
      (∀ xs' : List α, xs'.length = n → xs'.drop (i + 1) = xs.drop (i + 1) → OkL (fun k j => L k j (y + (f (xs.getD i d) : Int)) (i + 1) xs') Q) → OkL (fun k j => L k j y i xs) Q)
    (y : Int) (xs : List α) (hn : xs.length = n) (h0 : 0 ≤ y) (h1 : y + (sumN f xs : Int) ≤ 100000000) : OkL (fun k j => L k j y 0 xs) (fun r => r.1 = y + (sumN f xs : Int)) := by
  have key : ∀ m i (y : Int) (xs : List α) (t : Int), i + m = n → xs.length = n → 0 ≤ y → y + (sumN f (xs.drop i) : Int) = t → t ≤ 100000000 → OkL (fun k j => L k j y i xs) (fun r => r.1 = t) := by
    intro m
    induction m with
    | zero =>
      intro i y xs t hi hn h0 ht h1
      obtain rfl : i = n := by omega
      refine OkL.step (M := fun _ _ => some (y, xs, ())) (fun k j => hend k j y xs hn) (OkL.some ?_)
      rw [List.drop_of_length_le (by omega)] at ht
      simpa [sumN] using ht
    | succ m ih =>
      intro i y xs t hi hn h0 ht h1
      rw [sumN_drop f xs d i (by omega)] at ht
      refine hstep i y xs _ (by omega) hn h0 (by omega) fun xs' hn' hd => ih (i + 1) _ xs' t (by omega) hn' (by omega) ?_ h1
      rw [hd]; omega
  exact key n 0 y xs _ (by omega) hn h0 (by rw [List.drop_zero]) h1
theorem sum_const {α : Type} (c : Nat) (l : List α) : sumN (fun _ => c) l = c * l.length := by
  unfold sumN
  induction l with
  | nil => rfl
  | cons x l ih => rw [List.map_cons, List.sum_cons, ih, List.length_cons, Nat.mul_add]; omega
theorem len_sum {α : Type} {f : α → Nat} (h : ∀ x, 1 ≤ f x) (l : List α) : l.length ≤ sumN f l := by
  unfold sumN
  induction l with
  | nil => simp
  | cons x l ih => rw [List.map_cons, List.sum_cons, List.length_cons]; have := h x; omega
end Go.Proofs.Ytiabhdebjajgiaa.SFnSlotOther
