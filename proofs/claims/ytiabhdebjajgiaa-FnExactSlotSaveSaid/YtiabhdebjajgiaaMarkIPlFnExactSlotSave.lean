/- What the laws write into a row of numbers, and read back. -/
import Derived.Test.YtiabhdebjajgiaaOkPlFnExactSlotSave
set_option linter.unusedVariables false
set_option linter.unusedSimpArgs false
namespace Go.Proofs.Ytiabhdebjajgiaa.SFnExactSlotSave
open Go Go.Sx Go.Pl
theorem set_atN {α : Type} (a : List α) (x y : α) (b : List α) : (a ++ x :: b).set a.length y = a ++ y :: b := by
  induction a with
  | nil => rfl
  | cons z a ih => simp [ih]
/-- The row of numbers that is written, i of them. -/
def mkNs (m : Int) (i : Nat) : List Int := (List.range i).map fun (n : Nat) => m + (n : Int)
theorem mkNs_len (m : Int) (i : Nat) : (mkNs m i).length = i := by simp [mkNs]
theorem mkNs_succ (m : Int) (i : Nat) : mkNs m (i + 1) = mkNs m i ++ [m + (i : Int)] := by simp [mkNs, List.range_succ]
theorem mkNs_get (m : Int) (n i : Nat) (h : i < n) : (mkNs m n).getD i (dflt t_int) = m + (i : Int) := by
  show (mkNs m n).getD i (0 : Int) = _
  rw [List.getD_eq_getElem?_getD, List.getElem?_eq_getElem (by rw [mkNs_len]; exact h)]
  simp [mkNs]
theorem markNS (m : Int) (h0 : 0 ≤ m) (h1 : m ≤ 100000000) (l : List Int) (hl : l.length ≤ 100000000) : Ev (fun k => laws_markIntS_h0 k m l) (m + (l.length : Int), mkNs m l.length, ()) := by
  refine Ev.step (fun k => laws_markIntS_h0_eq k m l) ?_
  refine EvL.ev (L := fun k j => laws_markIntS_h0_2 k j m 0 l) ?_
  have := loop_up (fun k j i => laws_markIntS_h0_2 k j (m + (i : Int)) (i : Int) (mkNs m i ++ l.drop i)) l.length (fun _ => (m + (l.length : Int), mkNs m l.length, ())) ?_ (fun i hi hr => ?_) 0 (by omega)
  · simpa [mkNs] using this
  · refine EvL.step (M := fun _ _ => some (m + (l.length : Int), mkNs m l.length, ())) (fun k j => ?_) (EvL.now _)
    rw [laws_markIntS_h0_2_eq, List.drop_length, List.append_nil, mkNs_len, decide_eq_false (by omega), cond_false]
  · refine EvL.step (fun k j => laws_markIntS_h0_2_eq k j (m + (i : Int)) (i : Int) (mkNs m i ++ l.drop i)) ?_
    have hn : (mkNs m i ++ l.drop i).length = l.length := by rw [List.length_append, mkNs_len, List.length_drop]; omega
    have c1 : (i : Int) < (l.length : Int) := by omega
    have c2 : (0 : Int) ≤ (i : Int) := by omega
    have f1 : IntKind.i64.wrap (m + (i : Int) + 1) = m + ((i + 1 : Nat) : Int) := by rw [w64 (by omega) (by omega)]; omega
    simp only [f1, hn, Int.toNat_natCast, decide_eq_true c1, decide_eq_true c2, decide_eq_true hi, cond_true, w64n i (by omega)]
    refine EvL.congr (fun k j => ?_) hr
    congr 1
    have e2 : l.drop i = l.getD i (0 : Int) :: l.drop (i + 1) := getD_drop l _ i hi
    rw [e2]
    have e3 := set_atN (mkNs m i) (l.getD i (0 : Int)) (m + (i : Int)) (l.drop (i + 1))
    rw [mkNs_len] at e3
    rw [e3, mkNs_succ, List.append_assoc]
    rfl
theorem heldNS (m : Int) (h0 : 0 ≤ m) (h1 : m ≤ 100000000) (n : Nat) (hl : n ≤ 100000000) : Ev (fun k => laws_heldIntS k (mkNs m n) m) (m + (n : Int)) := by
  refine Ev.step (fun k => laws_heldIntS_eq k (mkNs m n) m) ?_
  refine EvL.ev (L := fun k j => laws_heldIntS_2 k j (mkNs m n) m 0) ?_
  have := loop_up (fun k j i => laws_heldIntS_2 k j (mkNs m n) (m + (i : Int)) (i : Int)) n (fun _ => m + (n : Int)) ?_ (fun i hi hr => ?_) 0 (by omega)
  · simpa using this
  · refine EvL.step (M := fun _ _ => some (m + (n : Int))) (fun k j => ?_) (EvL.now _)
    rw [laws_heldIntS_2_eq, mkNs_len, decide_eq_false (by omega), cond_false]
  · refine EvL.step (fun k j => laws_heldIntS_2_eq k j (mkNs m n) (m + (i : Int)) (i : Int)) ?_
    have c1 : (i : Int) < (n : Int) := by omega
    have c2 : (0 : Int) ≤ (i : Int) := by omega
    have f1 : IntKind.i64.wrap (m + (i : Int) + 1) = m + ((i + 1 : Nat) : Int) := by rw [w64 (by omega) (by omega)]; omega
    simp only [f1, mkNs_len, Int.toNat_natCast, decide_eq_true c1, decide_eq_true c2, cond_true, w64n i (by omega), mkNs_get m n i hi, bne_self_eq_false, cond_false]
    exact hr
theorem heldN_ev {l : List Int} {f : Nat → Option Bool} (hl : l.length ≤ 100000000) (hf : Ev f true) :
    Ev (fun k => (laws_heldIntS k (mkNs 1 l.length) 1).bind fun x => cond (decide (x < 0)) (some false) (cond (x != 1 + (l.length : Int)) (some false) (f k))) true := by
  refine Ev.bind (heldNS 1 (by decide) (by decide) l.length hl) ?_
  have h1 : ¬ (1 + (l.length : Int) < 0) := by omega
  rw [decide_eq_false h1]
  simp only [cond_false, bne_self_eq_false]
  exact hf
end Go.Proofs.Ytiabhdebjajgiaa.SFnExactSlotSave
