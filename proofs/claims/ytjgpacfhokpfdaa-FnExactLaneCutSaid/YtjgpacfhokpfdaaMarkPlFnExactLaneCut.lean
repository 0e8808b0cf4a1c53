/- What the laws write into a row of things that are let out, and read back. -/
import Derived.Test.YtjgpacfhokpfdaaOkPlFnExactLaneCut
import Derived.Test.YtjgpacfhokpfdaaChecksPlFnExactLaneCut
set_option linter.unusedVariables false
set_option linter.unusedSimpArgs false
namespace Go.Proofs.Ytjgpacfhokpfdaa.SFnExactLaneCut
open Go Go.Sx Go.Pl
theorem modify_at {α : Type} (f : α → α) (a : List α) (x : α) (b : List α) : (a ++ x :: b).modify a.length f = a ++ f x :: b := by
  induction a with
  | nil => rfl
  | cons y a ih => simp [ih]

def fiveM (m : Int) : Ou5 := (m, m + 1, m + 2, m + 3, m + 4)
/-- The row that is written, i things of it. -/
def mkO (m : Int) (i : Nat) : List Ou5 := (List.range i).map fun (n : Nat) => fiveM (m + 5 * (n : Int))

theorem mkO_len (m : Int) (i : Nat) : (mkO m i).length = i := by simp [mkO]

theorem mkO_succ (m : Int) (i : Nat) : mkO m (i + 1) = mkO m i ++ [fiveM (m + 5 * (i : Int))] := by simp [mkO, List.range_succ]

theorem mkO_get (m : Int) (n i : Nat) (h : i < n) : (mkO m n).getD i (dflt t_impl_Out) = fiveM (m + 5 * (i : Int)) := by
  show (mkO m n).getD i ((0, 0, 0, 0, 0) : Ou5) = _
  rw [List.getD_eq_getElem?_getD, List.getElem?_eq_getElem (by rw [mkO_len]; exact h)]
  simp [mkO]

theorem fives {y : Int} (h0 : 0 ≤ y) (h1 : y ≤ 1000000000) : IntKind.i64.wrap (y + 1) = y + 1 ∧ IntKind.i64.wrap (y + 1 + 1) = y + 2 ∧ IntKind.i64.wrap (y + 2 + 1) = y + 3 ∧ IntKind.i64.wrap (y + 3 + 1) = y + 4 ∧ IntKind.i64.wrap (y + 4 + 1) = y + 5 :=
  ⟨w64 (by omega) (by omega), by rw [w64 (by omega) (by omega)]; omega, by rw [w64 (by omega) (by omega)]; omega, by rw [w64 (by omega) (by omega)]; omega, by rw [w64 (by omega) (by omega)]; omega⟩

theorem markO (m : Int) (h0 : 0 ≤ m) (h1 : m ≤ 100000000) (l : List Ou5) (hl : l.length ≤ 1048576) : Ev (fun k => laws_markOutS_h0 k m l) (m + 5 * (l.length : Int), mkO m l.length, ()) := by
  refine Ev.step (fun k => laws_markOutS_h0_eq k m l) ?_
  have e0 : laws_markOutS_h0_2 = fun k j a b c => laws_markOutS_h0_2 k j a b c := rfl
  refine EvL.ev (L := fun k j => laws_markOutS_h0_2 k j m 0 l) ?_
  have := loop_up (fun k j i => laws_markOutS_h0_2 k j (m + 5 * (i : Int)) (i : Int) (mkO m i ++ l.drop i)) l.length (fun _ => (m + 5 * (l.length : Int), mkO m l.length, ())) ?_ (fun i hi hr => ?_) 0 (by omega)
  · simpa [mkO] using this
  · refine EvL.step (M := fun _ _ => some (m + 5 * (l.length : Int), mkO m l.length, ())) (fun k j => ?_) (EvL.now _)
    rw [laws_markOutS_h0_2_eq, List.drop_length, List.append_nil, mkO_len, decide_eq_false (by omega), cond_false]
  · refine EvL.step (fun k j => laws_markOutS_h0_2_eq k j (m + 5 * (i : Int)) (i : Int) (mkO m i ++ l.drop i)) ?_
    have hn : (mkO m i ++ l.drop i).length = l.length := by rw [List.length_append, mkO_len, List.length_drop]; omega
    have c1 : (i : Int) < (l.length : Int) := by omega
    have c2 : (0 : Int) ≤ (i : Int) := by omega
    obtain ⟨f1, f2, f3, f4, f5⟩ := fives (y := m + 5 * (i : Int)) (by omega) (by omega)
    simp only [f1, f2, f3, f4, f5, List.length_modify, hn, Int.toNat_natCast, decide_eq_true c1, decide_eq_true c2, decide_eq_true hi, cond_true, w64n i (by omega), List.modify_modify_eq]
    have e1 : m + 5 * (i : Int) + 5 = m + 5 * ((i + 1 : Nat) : Int) := by omega
    rw [e1]
    refine EvL.congr (fun k j => ?_) hr
    congr 1
    have e2 : l.drop i = l.getD i ((0, 0, 0, 0, 0) : Ou5) :: l.drop (i + 1) := getD_drop l _ i hi
    rw [e2]
    have e3 := fun f => modify_at f (mkO m i) (l.getD i ((0, 0, 0, 0, 0) : Ou5)) (l.drop (i + 1))
    rw [mkO_len] at e3
    rw [e3, mkO_succ, List.append_assoc]
    rfl

theorem heldO (m : Int) (h0 : 0 ≤ m) (h1 : m ≤ 100000000) (n : Nat) (hl : n ≤ 1048576) : Ev (fun k => laws_heldOutS k (mkO m n) m) (m + 5 * (n : Int)) := by
  refine Ev.step (fun k => laws_heldOutS_eq k (mkO m n) m) ?_
  refine EvL.ev (L := fun k j => laws_heldOutS_2 k j (mkO m n) m 0) ?_
  have := loop_up (fun k j i => laws_heldOutS_2 k j (mkO m n) (m + 5 * (i : Int)) (i : Int)) n (fun _ => m + 5 * (n : Int)) ?_ (fun i hi hr => ?_) 0 (by omega)
  · simpa using this
  · refine EvL.step (M := fun _ _ => some (m + 5 * (n : Int))) (fun k j => ?_) (EvL.now _)
    rw [laws_heldOutS_2_eq, mkO_len, decide_eq_false (by omega), cond_false]
  · refine EvL.step (fun k j => laws_heldOutS_2_eq k j (mkO m n) (m + 5 * (i : Int)) (i : Int)) ?_
    have c1 : (i : Int) < (n : Int) := by omega
    have c2 : (0 : Int) ≤ (i : Int) := by omega
    obtain ⟨f1, f2, f3, f4, f5⟩ := fives (y := m + 5 * (i : Int)) (by omega) (by omega)
    have e1 : m + 5 * (i : Int) + 5 = m + 5 * ((i + 1 : Nat) : Int) := by omega
    simp only [f1, f2, f3, f4, f5, mkO_len, Int.toNat_natCast, decide_eq_true c1, decide_eq_true c2, cond_true, w64n i (by omega), mkO_get m n i hi, fiveM, bne_self_eq_false, cond_false, e1]
    exact hr

/-- Numbers that are written one behind the other. -/
def mkI (f : Int → Int) (m : Int) (i : Nat) : List Int := (List.range i).map fun (n : Nat) => f (m + (n : Int))

theorem mkI_len (f : Int → Int) (m : Int) (i : Nat) : (mkI f m i).length = i := by simp [mkI]

theorem mkI_succ (f : Int → Int) (m : Int) (i : Nat) : mkI f m (i + 1) = mkI f m i ++ [f (m + (i : Int))] := by simp [mkI, List.range_succ]

theorem mkI_get (f : Int → Int) (m : Int) (n i : Nat) (d : Int) (h : i < n) : (mkI f m n).getD i d = f (m + (i : Int)) := by
  rw [List.getD_eq_getElem?_getD, List.getElem?_eq_getElem (by rw [mkI_len]; exact h)]
  simp [mkI]

theorem set_at {α : Type} (a : List α) (x y : α) (b : List α) : (a ++ x :: b).set a.length y = a ++ y :: b := by
  induction a with
  | nil => rfl
  | cons z a ih => simp [ih]

theorem mkI_step (f : Int → Int) (m : Int) (l : List Int) (i : Nat) (hi : i < l.length) : (mkI f m i ++ l.drop i).set i (f (m + (i : Int))) = mkI f m (i + 1) ++ l.drop (i + 1) := by
  rw [getD_drop l 0 i hi]
  have := set_at (mkI f m i) (l.getD i 0) (f (m + (i : Int))) (l.drop (i + 1))
  rw [mkI_len] at this
  rw [this, mkI_succ, List.append_assoc]
  rfl

theorem sevens {y : Int} (h0 : 0 ≤ y) (h1 : y ≤ 1000000000) : IntKind.i64.wrap (y + 5 + 1) = y + 6 ∧ IntKind.i64.wrap (y + 6 + 1) = y + 7 :=
  ⟨by rw [w64 (by omega) (by omega)]; omega, by rw [w64 (by omega) (by omega)]; omega⟩

/-- What is written into events: how far it counts. -/
theorem markE (m : Int) (h0 : 0 ≤ m) (h1 : m ≤ 100000000) (l : List Ev7) (hl : l.length ≤ 1048576) : Ok (fun k => laws_markEventS_h0 k m l) (fun b => b.1 = m + 7 * (l.length : Int)) := by
  refine Ok.step (fun k => laws_markEventS_h0_eq k m l) ?_
  have key : ∀ n i (x : List Ev7), l.length - i = n → i ≤ l.length → x.length = l.length → OkL (fun k j => laws_markEventS_h0_2 k j (m + 7 * (i : Int)) (i : Int) x) (fun b => b.1 = m + 7 * (l.length : Int)) := by
    intro n
    induction n with
    | zero =>
      intro i x hn hi hx
      refine OkL.step (fun k j => laws_markEventS_h0_2_eq k j (m + 7 * (i : Int)) (i : Int) x) (OkL.cond (fun h => absurd (of_decide_eq_true h) (by omega)) fun _ => OkL.some ?_)
      show m + 7 * (i : Int) = _
      omega
    | succ n ih =>
      intro i x hn hi hx
      have c1 : (i : Int) < (l.length : Int) := by omega
      have c2 : (0 : Int) ≤ (i : Int) := by omega
      have c3 : i < l.length := by omega
      obtain ⟨f1, f2, f3, f4, f5⟩ := fives (y := m + 7 * (i : Int)) (by omega) (by omega)
      obtain ⟨f6, f7⟩ := sevens (y := m + 7 * (i : Int)) (by omega) (by omega)
      have e1 : m + 7 * (i : Int) + 7 = m + 7 * ((i + 1 : Nat) : Int) := by omega
      refine OkL.step (fun k j => laws_markEventS_h0_2_eq k j (m + 7 * (i : Int)) (i : Int) x) ?_
      simp only [f1, f2, f3, f4, f5, f6, f7, List.length_modify, hx, Int.toNat_natCast, decide_eq_true c1, decide_eq_true c2, decide_eq_true c3, cond_true, w64n i (by omega), e1]
      exact ih (i + 1) _ (by omega) (by omega) (by simp only [List.length_modify]; exact hx)
  have := (key _ 0 l rfl (by omega) rfl).ok
  simpa using this
end Go.Proofs.Ytjgpacfhokpfdaa.SFnExactLaneCut
