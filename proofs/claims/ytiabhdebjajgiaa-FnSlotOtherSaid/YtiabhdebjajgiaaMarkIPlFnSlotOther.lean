/- What the laws write into a row of numbers, and read back. -/
import Derived.Test.YtiabhdebjajgiaaOkPlFnSlotOther
set_option linter.unusedVariables false
set_option linter.unusedSimpArgs false
namespace Go.Proofs.Ytiabhdebjajgiaa.SFnSlotOther
open Go Go.Sx Go.Pl
theorem set_atN {α : Type} (a : List α) (x y : α) (b : List α) : (a ++ x :: b).set a.length y = a ++ y :: b := by
  induction a with
  | nil => rfl
  | cons z a ih => simp [ih]
/-- The row of numbers that is written, i of them. -/
def mkNs (m : Int) (i : Nat) : List Int := (List.range i).map fun (n : Nat) => m + (n : Int)
theorem mkNs_len (m : Int) (i : Nat) : (mkNs m i).length = i := by simp [mkNs]
theorem mkNs_succ (m : Int) (i : Nat) : mkNs m (i + 1) = mkNs m i ++ [m + (i : Int)] := by simp [mkNs, List.range_succ]
theorem mkNs_get (m : Int) (n i : Nat) (h : i < n) : (mkNs m n).getD i (dflt t_int) = m + (i : Int) := by
  show (mkNs m n).getD i (0 : Int) = _
  rw [List.getD_eq_getElem?_getD, List.getElem?_eq_getElem (by rw [mkNs_len]; exact h)]
  simp [mkNs]
end Go.Proofs.Ytiabhdebjajgiaa.SFnSlotOther
