/- What the laws write into a row of states, and read back. -/
import Derived.Test.YtagkoaalbapnmaaMarkPlFnExactSimStart
set_option linter.unusedVariables false
set_option linter.unusedSimpArgs false
namespace Go.Proofs.Ytagkoaalbapnmaa.SFnExactSimStart
open Go Go.Sx Go.Pl
def triM (m : Int) : St3 := (m, m + 1, m + 2)
/-- The row of states that is written, i of them. -/
def mkT (m : Int) (i : Nat) : List St3 := (List.range i).map fun (n : Nat) => triM (m + 3 * (n : Int))

theorem mkT_len (m : Int) (i : Nat) : (mkT m i).length = i := by simp [mkT]

theorem mkT_succ (m : Int) (i : Nat) : mkT m (i + 1) = mkT m i ++ [triM (m + 3 * (i : Int))] := by simp [mkT, List.range_succ]

theorem mkT_get (m : Int) (n i : Nat) (h : i < n) : (mkT m n).getD i (dflt t_impl_State) = triM (m + 3 * (i : Int)) := by
  show (mkT m n).getD i ((0, 0, 0) : St3) = _
  rw [List.getD_eq_getElem?_getD, List.getElem?_eq_getElem (by rw [mkT_len]; exact h)]
  simp [mkT]

theorem markTS (m : Int) (h0 : 0 ≤ m) (h1 : m ≤ 100000000) (l : List St3) (hl : l.length ≤ 1048576) : Ev (fun k => laws_markStateS_h0 k m l) (m + 3 * (l.length : Int), mkT m l.length, ()) := by
  refine Ev.step (fun k => laws_markStateS_h0_eq k m l) ?_
  refine EvL.ev (L := fun k j => laws_markStateS_h0_2 k j m 0 l) ?_
  have := loop_up (fun k j i => laws_markStateS_h0_2 k j (m + 3 * (i : Int)) (i : Int) (mkT m i ++ l.drop i)) l.length (fun _ => (m + 3 * (l.length : Int), mkT m l.length, ())) ?_ (fun i hi hr => ?_) 0 (by omega)
  · simpa [mkT] using this
  · refine EvL.step (M := fun _ _ => some (m + 3 * (l.length : Int), mkT m l.length, ())) (fun k j => ?_) (EvL.now _)
    rw [laws_markStateS_h0_2_eq, List.drop_length, List.append_nil, mkT_len, decide_eq_false (by omega), cond_false]
  · refine EvL.step (fun k j => laws_markStateS_h0_2_eq k j (m + 3 * (i : Int)) (i : Int) (mkT m i ++ l.drop i)) ?_
    have hn : (mkT m i ++ l.drop i).length = l.length := by rw [List.length_append, mkT_len, List.length_drop]; omega
    have c1 : (i : Int) < (l.length : Int) := by omega
    have c2 : (0 : Int) ≤ (i : Int) := by omega
    obtain ⟨f1, f2, f3, f4, f5⟩ := fives (y := m + 3 * (i : Int)) (by omega) (by omega)
    simp only [f1, f2, f3, List.length_modify, hn, Int.toNat_natCast, decide_eq_true c1, decide_eq_true c2, decide_eq_true hi, cond_true, w64n i (by omega), List.modify_modify_eq]
    have e1 : m + 3 * (i : Int) + 3 = m + 3 * ((i + 1 : Nat) : Int) := by omega
    rw [e1]
    refine EvL.congr (fun k j => ?_) hr
    congr 1
    have e2 : l.drop i = l.getD i ((0, 0, 0) : St3) :: l.drop (i + 1) := getD_drop l _ i hi
    rw [e2]
    have e3 := fun f => modify_at f (mkT m i) (l.getD i ((0, 0, 0) : St3)) (l.drop (i + 1))
    rw [mkT_len] at e3
    rw [e3, mkT_succ, List.append_assoc]
    rfl

theorem heldTS (m : Int) (h0 : 0 ≤ m) (h1 : m ≤ 100000000) (n : Nat) (hl : n ≤ 1048576) : Ev (fun k => laws_heldStateS k (mkT m n) m) (m + 3 * (n : Int)) := by
  refine Ev.step (fun k => laws_heldStateS_eq k (mkT m n) m) ?_
  refine EvL.ev (L := fun k j => laws_heldStateS_2 k j (mkT m n) m 0) ?_
  have := loop_up (fun k j i => laws_heldStateS_2 k j (mkT m n) (m + 3 * (i : Int)) (i : Int)) n (fun _ => m + 3 * (n : Int)) ?_ (fun i hi hr => ?_) 0 (by omega)
  · simpa using this
  · refine EvL.step (M := fun _ _ => some (m + 3 * (n : Int))) (fun k j => ?_) (EvL.now _)
    rw [laws_heldStateS_2_eq, mkT_len, decide_eq_false (by omega), cond_false]
  · refine EvL.step (fun k j => laws_heldStateS_2_eq k j (mkT m n) (m + 3 * (i : Int)) (i : Int)) ?_
    have c1 : (i : Int) < (n : Int) := by omega
    have c2 : (0 : Int) ≤ (i : Int) := by omega
    obtain ⟨f1, f2, f3, f4, f5⟩ := fives (y := m + 3 * (i : Int)) (by omega) (by omega)
    have e1 : m + 3 * (i : Int) + 3 = m + 3 * ((i + 1 : Nat) : Int) := by omega
    simp only [f1, f2, f3, mkT_len, Int.toNat_natCast, decide_eq_true c1, decide_eq_true c2, cond_true, w64n i (by omega), mkT_get m n i hi, triM, bne_self_eq_false, cond_false, e1]
    exact hr
end Go.Proofs.Ytagkoaalbapnmaa.SFnExactSimStart
