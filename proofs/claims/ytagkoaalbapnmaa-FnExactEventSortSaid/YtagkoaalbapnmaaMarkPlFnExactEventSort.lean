/- What the laws write into a row of things that are let out, and read back. -/
import Derived.Test.YtagkoaalbapnmaaOkPlFnExactEventSort
import Derived.Test.YtagkoaalbapnmaaChecksPlFnExactEventSort
set_option linter.unusedVariables false
set_option linter.unusedSimpArgs false
namespace Go.Proofs.Ytagkoaalbapnmaa.SFnExactEventSort
open Go Go.Sx Go.Pl
theorem modify_at {α : Type} (f : α → α) (a : List α) (x : α) (b : List α) : (a ++ x :: b).modify a.length f = a ++ f x :: b := by
  induction a with
  | nil => rfl
  | cons y a ih => simp [ih]

def fiveM (m : Int) : Ou5 := (m, m + 1, m + 2, m + 3, m + 4)
/-- The row that is written, i things of it. -/
def mkO (m : Int) (i : Nat) : List Ou5 := (List.range i).map fun (n : Nat) => fiveM (m + 5 * (n : Int))

theorem mkO_len (m : Int) (i : Nat) : (mkO m i).length = i := by simp [mkO]

theorem mkO_succ (m : Int) (i : Nat) : mkO m (i + 1) = mkO m i ++ [fiveM (m + 5 * (i : Int))] := by simp [mkO, List.range_succ]

theorem mkO_get (m : Int) (n i : Nat) (h : i < n) : (mkO m n).getD i (dflt t_impl_Out) = fiveM (m + 5 * (i : Int)) := by
  show (mkO m n).getD i ((0, 0, 0, 0, 0) : Ou5) = _
  rw [List.getD_eq_getElem?_getD, List.getElem?_eq_getElem (by rw [mkO_len]; exact h)]
  simp [mkO]

theorem fives {y : Int} (h0 : 0 ≤ y) (h1 : y ≤ 1000000000) : IntKind.i64.wrap (y + 1) = y + 1 ∧ IntKind.i64.wrap (y + 1 + 1) = y + 2 ∧ IntKind.i64.wrap (y + 2 + 1) = y + 3 ∧ IntKind.i64.wrap (y + 3 + 1) = y + 4 ∧ IntKind.i64.wrap (y + 4 + 1) = y + 5 :=
  ⟨w64 (by omega) (by omega), by rw [w64 (by omega) (by omega)]; omega, by rw [w64 (by omega) (by omega)]; omega, by rw [w64 (by omega) (by omega)]; omega, by rw [w64 (by omega) (by omega)]; omega⟩

/-- Numbers that are written one behind the other. -/
def mkI (f : Int → Int) (m : Int) (i : Nat) : List Int := (List.range i).map fun (n : Nat) => f (m + (n : Int))

theorem mkI_len (f : Int → Int) (m : Int) (i : Nat) : (mkI f m i).length = i := by simp [mkI]

theorem mkI_succ (f : Int → Int) (m : Int) (i : Nat) : mkI f m (i + 1) = mkI f m i ++ [f (m + (i : Int))] := by simp [mkI, List.range_succ]

theorem mkI_get (f : Int → Int) (m : Int) (n i : Nat) (d : Int) (h : i < n) : (mkI f m n).getD i d = f (m + (i : Int)) := by
  rw [List.getD_eq_getElem?_getD, List.getElem?_eq_getElem (by rw [mkI_len]; exact h)]
  simp [mkI]

theorem set_at {α : Type} (a : List α) (x y : α) (b : List α) : (a ++ x :: b).set a.length y = a ++ y :: b := by
  induction a with
  | nil => rfl
  | cons z a ih => simp [ih]

theorem mkI_step (f : Int → Int) (m : Int) (l : List Int) (i : Nat) (hi : i < l.length) : (mkI f m i ++ l.drop i).set i (f (m + (i : Int))) = mkI f m (i + 1) ++ l.drop (i + 1) := by
  rw [getD_drop l 0 i hi]
  have := set_at (mkI f m i) (l.getD i 0) (f (m + (i : Int))) (l.drop (i + 1))
  rw [mkI_len] at this
  rw [this, mkI_succ, List.append_assoc]
  rfl

theorem sevens {y : Int} (h0 : 0 ≤ y) (h1 : y ≤ 1000000000) : IntKind.i64.wrap (y + 5 + 1) = y + 6 ∧ IntKind.i64.wrap (y + 6 + 1) = y + 7 :=
  ⟨by rw [w64 (by omega) (by omega)]; omega, by rw [w64 (by omega) (by omega)]; omega⟩

/-- What is written into events: how far it counts. -/
theorem markE (m : Int) (h0 : 0 ≤ m) (h1 : m ≤ 100000000) (l : List Ev7) (hl : l.length ≤ 1048576) : Ok (fun k => laws_markEventS_h0 k m l) (fun b => b.1 = m + 7 * (l.length : Int)) := by
  refine Ok.step (fun k => laws_markEventS_h0_eq k m l) ?_
  have key : ∀ n i (x : List Ev7), l.length - i = n → i ≤ l.length → x.length = l.length → OkL (fun k j => laws_markEventS_h0_2 k j (m + 7 * (i : Int)) (i : Int) x) (fun b => b.1 = m + 7 * (l.length : Int)) := by
    intro n
    induction n with
    | zero =>
      intro i x hn hi hx
      refine OkL.step (fun k j => laws_markEventS_h0_2_eq k j (m + 7 * (i : Int)) (i : Int) x) (OkL.cond (fun h => absurd (of_decide_eq_true h) (by omega)) fun _ => OkL.some ?_)
      show m + 7 * (i : Int) = _
      omega
    | succ n ih =>
      intro i x hn hi hx
      have c1 : (i : Int) < (l.length : Int) := by omega
      have c2 : (0 : Int) ≤ (i : Int) := by omega
      have c3 : i < l.length := by omega
      obtain ⟨f1, f2, f3, f4, f5⟩ := fives (y := m + 7 * (i : Int)) (by omega) (by omega)
      obtain ⟨f6, f7⟩ := sevens (y := m + 7 * (i : Int)) (by omega) (by omega)
      have e1 : m + 7 * (i : Int) + 7 = m + 7 * ((i + 1 : Nat) : Int) := by omega
      refine OkL.step (fun k j => laws_markEventS_h0_2_eq k j (m + 7 * (i : Int)) (i : Int) x) ?_
      simp only [f1, f2, f3, f4, f5, f6, f7, List.length_modify, hx, Int.toNat_natCast, decide_eq_true c1, decide_eq_true c2, decide_eq_true c3, cond_true, w64n i (by omega), e1]
      exact ih (i + 1) _ (by omega) (by omega) (by simp only [List.length_modify]; exact hx)
  have := (key _ 0 l rfl (by omega) rfl).ok
  simpa using this
end Go.Proofs.Ytagkoaalbapnmaa.SFnExactEventSort
