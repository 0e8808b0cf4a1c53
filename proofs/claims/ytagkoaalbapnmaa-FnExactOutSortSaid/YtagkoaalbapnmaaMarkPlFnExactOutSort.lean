/- What the laws write into a row of things that are let out, and read back. -/
import Derived.Test.YtagkoaalbapnmaaOkPlFnExactOutSort
import Derived.Test.YtagkoaalbapnmaaChecksPlFnExactOutSort
set_option linter.unusedVariables false
set_option linter.unusedSimpArgs false
namespace Go.Proofs.Ytagkoaalbapnmaa.SFnExactOutSort
open Go Go.Sx Go.Pl
theorem modify_at {α : Type} (f : α → α) (a : List α) (x : α) (b : List α) : (a ++ x :: b).modify a.length f = a ++ f x :: b := by
  induction a with
  | nil => rfl
  | cons y a ih => simp [ih]

def fiveM (m : Int) : Ou5 := (m, m + 1, m + 2, m + 3, m + 4)
/-- The row that is written, i things of it. -/
def mkO (m : Int) (i : Nat) : List Ou5 := (List.range i).map fun (n : Nat) => fiveM (m + 5 * (n : Int))

theorem mkO_len (m : Int) (i : Nat) : (mkO m i).length = i := by simp [mkO]

theorem mkO_succ (m : Int) (i : Nat) : mkO m (i + 1) = mkO m i ++ [fiveM (m + 5 * (i : Int))] := by simp [mkO, List.range_succ]

theorem mkO_get (m : Int) (n i : Nat) (h : i < n) : (mkO m n).getD i (dflt t_impl_Out) = fiveM (m + 5 * (i : Int)) := by
  show (mkO m n).getD i ((0, 0, 0, 0, 0) : Ou5) = _
  rw [List.getD_eq_getElem?_getD, List.getElem?_eq_getElem (by rw [mkO_len]; exact h)]
  simp [mkO]

theorem fives {y : Int} (h0 : 0 ≤ y) (h1 : y ≤ 10000000) : IntKind.i64.wrap (y + 1) = y + 1 ∧ IntKind.i64.wrap (y + 1 + 1) = y + 2 ∧ IntKind.i64.wrap (y + 2 + 1) = y + 3 ∧ IntKind.i64.wrap (y + 3 + 1) = y + 4 ∧ IntKind.i64.wrap (y + 4 + 1) = y + 5 :=
  ⟨w64 (by omega) (by omega), by rw [w64 (by omega) (by omega)]; omega, by rw [w64 (by omega) (by omega)]; omega, by rw [w64 (by omega) (by omega)]; omega, by rw [w64 (by omega) (by omega)]; omega⟩

theorem markO (m : Int) (h0 : 0 ≤ m) (h1 : m ≤ 10) (l : List Ou5) (hl : l.length ≤ 1048576) : Ev (fun k => laws_markOutS_h0 k m l) (m + 5 * (l.length : Int), mkO m l.length, ()) := by
  refine Ev.step (fun k => laws_markOutS_h0_eq k m l) ?_
  have e0 : laws_markOutS_h0_2 = fun k j a b c => laws_markOutS_h0_2 k j a b c := rfl
  refine EvL.ev (L := fun k j => laws_markOutS_h0_2 k j m 0 l) ?_
  have := loop_up (fun k j i => laws_markOutS_h0_2 k j (m + 5 * (i : Int)) (i : Int) (mkO m i ++ l.drop i)) l.length (fun _ => (m + 5 * (l.length : Int), mkO m l.length, ())) ?_ (fun i hi hr => ?_) 0 (by omega)
  · simpa [mkO] using this
  · refine EvL.step (M := fun _ _ => some (m + 5 * (l.length : Int), mkO m l.length, ())) (fun k j => ?_) (EvL.now _)
    rw [laws_markOutS_h0_2_eq, List.drop_length, List.append_nil, mkO_len, decide_eq_false (by omega), cond_false]
  · refine EvL.step (fun k j => laws_markOutS_h0_2_eq k j (m + 5 * (i : Int)) (i : Int) (mkO m i ++ l.drop i)) ?_
    have hn : (mkO m i ++ l.drop i).length = l.length := by rw [List.length_append, mkO_len, List.length_drop]; omega
    have c1 : (i : Int) < (l.length : Int) := by omega
    have c2 : (0 : Int) ≤ (i : Int) := by omega
    obtain ⟨f1, f2, f3, f4, f5⟩ := fives (y := m + 5 * (i : Int)) (by omega) (by omega)
    simp only [f1, f2, f3, f4, f5, List.length_modify, hn, Int.toNat_natCast, decide_eq_true c1, decide_eq_true c2, decide_eq_true hi, cond_true, w64n i (by omega), List.modify_modify_eq]
    have e1 : m + 5 * (i : Int) + 5 = m + 5 * ((i + 1 : Nat) : Int) := by omega
    rw [e1]
    refine EvL.congr (fun k j => ?_) hr
    congr 1
    have e2 : l.drop i = l.getD i ((0, 0, 0, 0, 0) : Ou5) :: l.drop (i + 1) := getD_drop l _ i hi
    rw [e2]
    have e3 := fun f => modify_at f (mkO m i) (l.getD i ((0, 0, 0, 0, 0) : Ou5)) (l.drop (i + 1))
    rw [mkO_len] at e3
    rw [e3, mkO_succ, List.append_assoc]
    rfl

theorem heldO (m : Int) (h0 : 0 ≤ m) (h1 : m ≤ 10) (n : Nat) (hl : n ≤ 1048576) : Ev (fun k => laws_heldOutS k (mkO m n) m) (m + 5 * (n : Int)) := by
  refine Ev.step (fun k => laws_heldOutS_eq k (mkO m n) m) ?_
  refine EvL.ev (L := fun k j => laws_heldOutS_2 k j (mkO m n) m 0) ?_
  have := loop_up (fun k j i => laws_heldOutS_2 k j (mkO m n) (m + 5 * (i : Int)) (i : Int)) n (fun _ => m + 5 * (n : Int)) ?_ (fun i hi hr => ?_) 0 (by omega)
  · simpa using this
  · refine EvL.step (M := fun _ _ => some (m + 5 * (n : Int))) (fun k j => ?_) (EvL.now _)
    rw [laws_heldOutS_2_eq, mkO_len, decide_eq_false (by omega), cond_false]
  · refine EvL.step (fun k j => laws_heldOutS_2_eq k j (mkO m n) (m + 5 * (i : Int)) (i : Int)) ?_
    have c1 : (i : Int) < (n : Int) := by omega
    have c2 : (0 : Int) ≤ (i : Int) := by omega
    obtain ⟨f1, f2, f3, f4, f5⟩ := fives (y := m + 5 * (i : Int)) (by omega) (by omega)
    have e1 : m + 5 * (i : Int) + 5 = m + 5 * ((i + 1 : Nat) : Int) := by omega
    simp only [f1, f2, f3, f4, f5, mkO_len, Int.toNat_natCast, decide_eq_true c1, decide_eq_true c2, cond_true, w64n i (by omega), mkO_get m n i hi, fiveM, bne_self_eq_false, cond_false, e1]
    exact hr
end Go.Proofs.Ytagkoaalbapnmaa.SFnExactOutSort
