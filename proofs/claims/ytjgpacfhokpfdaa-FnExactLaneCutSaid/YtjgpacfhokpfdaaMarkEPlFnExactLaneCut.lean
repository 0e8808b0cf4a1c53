/- What the laws write into a row of events, and read back. -/
import Derived.Test.YtjgpacfhokpfdaaMarkPlFnExactLaneCut
set_option linter.unusedVariables false
set_option linter.unusedSimpArgs false
namespace Go.Proofs.Ytjgpacfhokpfdaa.SFnExactLaneCut
open Go Go.Sx Go.Pl
def sevM (m : Int) : Ev7 := (m, m + 1, m + 2, m + 3, m + 4, m + 5, m + 6)
/-- The row of events that is written, i of them. -/
def mkE (m : Int) (i : Nat) : List Ev7 := (List.range i).map fun (n : Nat) => sevM (m + 7 * (n : Int))

theorem mkE_len (m : Int) (i : Nat) : (mkE m i).length = i := by simp [mkE]

theorem mkE_succ (m : Int) (i : Nat) : mkE m (i + 1) = mkE m i ++ [sevM (m + 7 * (i : Int))] := by simp [mkE, List.range_succ]

theorem mkE_get (m : Int) (n i : Nat) (h : i < n) : (mkE m n).getD i (dflt t_impl_Event) = sevM (m + 7 * (i : Int)) := by
  show (mkE m n).getD i ((0, 0, 0, 0, 0, 0, 0) : Ev7) = _
  rw [List.getD_eq_getElem?_getD, List.getElem?_eq_getElem (by rw [mkE_len]; exact h)]
  simp [mkE]

theorem markES (m : Int) (h0 : 0 ≤ m) (h1 : m ≤ 100000000) (l : List Ev7) (hl : l.length ≤ 1048576) : Ev (fun k => laws_markEventS_h0 k m l) (m + 7 * (l.length : Int), mkE m l.length, ()) := by
  refine Ev.step (fun k => laws_markEventS_h0_eq k m l) ?_
  refine EvL.ev (L := fun k j => laws_markEventS_h0_2 k j m 0 l) ?_
  have := loop_up (fun k j i => laws_markEventS_h0_2 k j (m + 7 * (i : Int)) (i : Int) (mkE m i ++ l.drop i)) l.length (fun _ => (m + 7 * (l.length : Int), mkE m l.length, ())) ?_ (fun i hi hr => ?_) 0 (by omega)
  · simpa [mkE] using this
  · refine EvL.step (M := fun _ _ => some (m + 7 * (l.length : Int), mkE m l.length, ())) (fun k j => ?_) (EvL.now _)
    rw [laws_markEventS_h0_2_eq, List.drop_length, List.append_nil, mkE_len, decide_eq_false (by omega), cond_false]
  · refine EvL.step (fun k j => laws_markEventS_h0_2_eq k j (m + 7 * (i : Int)) (i : Int) (mkE m i ++ l.drop i)) ?_
    have hn : (mkE m i ++ l.drop i).length = l.length := by rw [List.length_append, mkE_len, List.length_drop]; omega
    have c1 : (i : Int) < (l.length : Int) := by omega
    have c2 : (0 : Int) ≤ (i : Int) := by omega
    obtain ⟨f1, f2, f3, f4, f5⟩ := fives (y := m + 7 * (i : Int)) (by omega) (by omega)
    obtain ⟨f6, f7⟩ := sevens (y := m + 7 * (i : Int)) (by omega) (by omega)
    simp only [f1, f2, f3, f4, f5, f6, f7, List.length_modify, hn, Int.toNat_natCast, decide_eq_true c1, decide_eq_true c2, decide_eq_true hi, cond_true, w64n i (by omega), List.modify_modify_eq]
    have e1 : m + 7 * (i : Int) + 7 = m + 7 * ((i + 1 : Nat) : Int) := by omega
    rw [e1]
    refine EvL.congr (fun k j => ?_) hr
    congr 1
    have e2 : l.drop i = l.getD i ((0, 0, 0, 0, 0, 0, 0) : Ev7) :: l.drop (i + 1) := getD_drop l _ i hi
    rw [e2]
    have e3 := fun f => modify_at f (mkE m i) (l.getD i ((0, 0, 0, 0, 0, 0, 0) : Ev7)) (l.drop (i + 1))
    rw [mkE_len] at e3
    rw [e3, mkE_succ, List.append_assoc]
    rfl

theorem heldES (m : Int) (h0 : 0 ≤ m) (h1 : m ≤ 100000000) (n : Nat) (hl : n ≤ 1048576) : Ev (fun k => laws_heldEventS k (mkE m n) m) (m + 7 * (n : Int)) := by
  refine Ev.step (fun k => laws_heldEventS_eq k (mkE m n) m) ?_
  refine EvL.ev (L := fun k j => laws_heldEventS_2 k j (mkE m n) m 0) ?_
  have := loop_up (fun k j i => laws_heldEventS_2 k j (mkE m n) (m + 7 * (i : Int)) (i : Int)) n (fun _ => m + 7 * (n : Int)) ?_ (fun i hi hr => ?_) 0 (by omega)
  · simpa using this
  · refine EvL.step (M := fun _ _ => some (m + 7 * (n : Int))) (fun k j => ?_) (EvL.now _)
    rw [laws_heldEventS_2_eq, mkE_len, decide_eq_false (by omega), cond_false]
  · refine EvL.step (fun k j => laws_heldEventS_2_eq k j (mkE m n) (m + 7 * (i : Int)) (i : Int)) ?_
    have c1 : (i : Int) < (n : Int) := by omega
    have c2 : (0 : Int) ≤ (i : Int) := by omega
    obtain ⟨f1, f2, f3, f4, f5⟩ := fives (y := m + 7 * (i : Int)) (by omega) (by omega)
    obtain ⟨f6, f7⟩ := sevens (y := m + 7 * (i : Int)) (by omega) (by omega)
    have e1 : m + 7 * (i : Int) + 7 = m + 7 * ((i + 1 : Nat) : Int) := by omega
    simp only [f1, f2, f3, f4, f5, f6, f7, mkE_len, Int.toNat_natCast, decide_eq_true c1, decide_eq_true c2, cond_true, w64n i (by omega), mkE_get m n i hi, sevM, bne_self_eq_false, cond_false, e1]
    exact hr
end Go.Proofs.Ytjgpacfhokpfdaa.SFnExactLaneCut
