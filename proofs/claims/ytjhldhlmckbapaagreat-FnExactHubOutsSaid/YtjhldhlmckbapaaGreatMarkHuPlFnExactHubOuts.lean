/- What the laws write into a row of things that are let out, and read back. -/
import Derived.Test.YtjhldhlmckbapaaGreatOkPlFnExactHubOuts
import Derived.Test.YtjhldhlmckbapaaGreatChecksPlFnExactHubOuts
import Derived.Test.YtjhldhlmckbapaaGreatSzPlFnExactHubOuts
import Derived.Test.YtjhldhlmckbapaaGreatSumPlFnExactHubOuts
import Derived.Test.YtjhldhlmckbapaaGreatHubPlFnExactHubOuts
set_option linter.unusedVariables false
set_option linter.unusedSimpArgs false
namespace Go.Proofs.YtjhldhlmckbapaaGreat.SFnExactHubOuts
open Go Go.Sx Go.Pl
theorem modify_at {α : Type} (f : α → α) (a : List α) (x : α) (b : List α) : (a ++ x :: b).modify a.length f = a ++ f x :: b := by
  induction a with
  | nil => rfl
  | cons y a ih => simp [ih]

def fiveM (m : Int) : Ou5 := (m, m + 1, m + 2, m + 3, m + 4)
/-- The row that is written, i things of it. -/
def mkO (m : Int) (i : Nat) : List Ou5 := (List.range i).map fun (n : Nat) => fiveM (m + 5 * (n : Int))

theorem mkO_len (m : Int) (i : Nat) : (mkO m i).length = i := by simp [mkO]

theorem mkO_succ (m : Int) (i : Nat) : mkO m (i + 1) = mkO m i ++ [fiveM (m + 5 * (i : Int))] := by simp [mkO, List.range_succ]

theorem mkO_get (m : Int) (n i : Nat) (h : i < n) : (mkO m n).getD i (dflt t_impl_Out) = fiveM (m + 5 * (i : Int)) := by
  show (mkO m n).getD i ((0, 0, 0, 0, 0) : Ou5) = _
  rw [List.getD_eq_getElem?_getD, List.getElem?_eq_getElem (by rw [mkO_len]; exact h)]
  simp [mkO]

theorem fives {y : Int} (h0 : 0 ≤ y) (h1 : y ≤ 1000000000) : IntKind.i64.wrap (y + 1) = y + 1 ∧ IntKind.i64.wrap (y + 1 + 1) = y + 2 ∧ IntKind.i64.wrap (y + 2 + 1) = y + 3 ∧ IntKind.i64.wrap (y + 3 + 1) = y + 4 ∧ IntKind.i64.wrap (y + 4 + 1) = y + 5 :=
  ⟨w64 (by omega) (by omega), by rw [w64 (by omega) (by omega)]; omega, by rw [w64 (by omega) (by omega)]; omega, by rw [w64 (by omega) (by omega)]; omega, by rw [w64 (by omega) (by omega)]; omega⟩

theorem markO (m : Int) (h0 : 0 ≤ m) (h1 : m ≤ 100000000) (l : List Ou5) (hl : l.length ≤ 1048576) : Ev (fun k => laws_markOutS_h0 k m l) (m + 5 * (l.length : Int), mkO m l.length, ()) := by
  refine Ev.step (fun k => laws_markOutS_h0_eq k m l) ?_
  have e0 : laws_markOutS_h0_2 = fun k j a b c => laws_markOutS_h0_2 k j a b c := rfl
  refine EvL.ev (L := fun k j => laws_markOutS_h0_2 k j m 0 l) ?_
  have := loop_up (fun k j i => laws_markOutS_h0_2 k j (m + 5 * (i : Int)) (i : Int) (mkO m i ++ l.drop i)) l.length (fun _ => (m + 5 * (l.length : Int), mkO m l.length, ())) ?_ (fun i hi hr => ?_) 0 (by omega)
  · simpa [mkO] using this
  · refine EvL.step (M := fun _ _ => some (m + 5 * (l.length : Int), mkO m l.length, ())) (fun k j => ?_) (EvL.now _)
    rw [laws_markOutS_h0_2_eq, List.drop_length, List.append_nil, mkO_len, decide_eq_false (by omega), cond_false]
  · refine EvL.step (fun k j => laws_markOutS_h0_2_eq k j (m + 5 * (i : Int)) (i : Int) (mkO m i ++ l.drop i)) ?_
    have hn : (mkO m i ++ l.drop i).length = l.length := by rw [List.length_append, mkO_len, List.length_drop]; omega
    have c1 : (i : Int) < (l.length : Int) := by omega
    have c2 : (0 : Int) ≤ (i : Int) := by omega
    obtain ⟨f1, f2, f3, f4, f5⟩ := fives (y := m + 5 * (i : Int)) (by omega) (by omega)
    simp only [f1, f2, f3, f4, f5, List.length_modify, hn, Int.toNat_natCast, decide_eq_true c1, decide_eq_true c2, decide_eq_true hi, cond_true, w64n i (by omega), List.modify_modify_eq]
    have e1 : m + 5 * (i : Int) + 5 = m + 5 * ((i + 1 : Nat) : Int) := by omega
    rw [e1]
    refine EvL.congr (fun k j => ?_) hr
    congr 1
    have e2 : l.drop i = l.getD i ((0, 0, 0, 0, 0) : Ou5) :: l.drop (i + 1) := getD_drop l _ i hi
    rw [e2]
    have e3 := fun f => modify_at f (mkO m i) (l.getD i ((0, 0, 0, 0, 0) : Ou5)) (l.drop (i + 1))
    rw [mkO_len] at e3
    rw [e3, mkO_succ, List.append_assoc]
    rfl

theorem heldO (m : Int) (h0 : 0 ≤ m) (h1 : m ≤ 100000000) (n : Nat) (hl : n ≤ 1048576) : Ev (fun k => laws_heldOutS k (mkO m n) m) (m + 5 * (n : Int)) := by
  refine Ev.step (fun k => laws_heldOutS_eq k (mkO m n) m) ?_
  refine EvL.ev (L := fun k j => laws_heldOutS_2 k j (mkO m n) m 0) ?_
  have := loop_up (fun k j i => laws_heldOutS_2 k j (mkO m n) (m + 5 * (i : Int)) (i : Int)) n (fun _ => m + 5 * (n : Int)) ?_ (fun i hi hr => ?_) 0 (by omega)
  · simpa using this
  · refine EvL.step (M := fun _ _ => some (m + 5 * (n : Int))) (fun k j => ?_) (EvL.now _)
    rw [laws_heldOutS_2_eq, mkO_len, decide_eq_false (by omega), cond_false]
  · refine EvL.step (fun k j => laws_heldOutS_2_eq k j (mkO m n) (m + 5 * (i : Int)) (i : Int)) ?_
    have c1 : (i : Int) < (n : Int) := by omega
    have c2 : (0 : Int) ≤ (i : Int) := by omega
    obtain ⟨f1, f2, f3, f4, f5⟩ := fives (y := m + 5 * (i : Int)) (by omega) (by omega)
    have e1 : m + 5 * (i : Int) + 5 = m + 5 * ((i + 1 : Nat) : Int) := by omega
    simp only [f1, f2, f3, f4, f5, mkO_len, Int.toNat_natCast, decide_eq_true c1, decide_eq_true c2, cond_true, w64n i (by omega), mkO_get m n i hi, fiveM, bne_self_eq_false, cond_false, e1]
    exact hr

/-- Numbers that are written one behind the other. -/
def mkI (f : Int → Int) (m : Int) (i : Nat) : List Int := (List.range i).map fun (n : Nat) => f (m + (n : Int))

theorem mkI_len (f : Int → Int) (m : Int) (i : Nat) : (mkI f m i).length = i := by simp [mkI]

theorem mkI_succ (f : Int → Int) (m : Int) (i : Nat) : mkI f m (i + 1) = mkI f m i ++ [f (m + (i : Int))] := by simp [mkI, List.range_succ]

theorem mkI_get (f : Int → Int) (m : Int) (n i : Nat) (d : Int) (h : i < n) : (mkI f m n).getD i d = f (m + (i : Int)) := by
  rw [List.getD_eq_getElem?_getD, List.getElem?_eq_getElem (by rw [mkI_len]; exact h)]
  simp [mkI]

theorem set_at {α : Type} (a : List α) (x y : α) (b : List α) : (a ++ x :: b).set a.length y = a ++ y :: b := by
  induction a with
  | nil => rfl
  | cons z a ih => simp [ih]

theorem mkI_step (f : Int → Int) (m : Int) (l : List Int) (i : Nat) (hi : i < l.length) : (mkI f m i ++ l.drop i).set i (f (m + (i : Int))) = mkI f m (i + 1) ++ l.drop (i + 1) := by
  rw [getD_drop l 0 i hi]
  have := set_at (mkI f m i) (l.getD i 0) (f (m + (i : Int))) (l.drop (i + 1))
  rw [mkI_len] at this
  rw [this, mkI_succ, List.append_assoc]
  rfl

theorem markI (m : Int) (h0 : 0 ≤ m) (h1 : m ≤ 100000000) (l : List Int) (hl : l.length ≤ 10000000) : Ev (fun k => laws_markIntS_h0 k m l) (m + (l.length : Int), mkI id m l.length, ()) := by
  refine Ev.step (fun k => laws_markIntS_h0_eq k m l) ?_
  refine EvL.ev (L := fun k j => laws_markIntS_h0_2 k j m 0 l) ?_
  have := loop_up (fun k j i => laws_markIntS_h0_2 k j (m + (i : Int)) (i : Int) (mkI id m i ++ l.drop i)) l.length (fun _ => (m + (l.length : Int), mkI id m l.length, ())) ?_ (fun i hi hr => ?_) 0 (by omega)
  · simpa [mkI] using this
  · refine EvL.step (M := fun _ _ => some (m + (l.length : Int), mkI id m l.length, ())) (fun k j => ?_) (EvL.now _)
    rw [laws_markIntS_h0_2_eq, List.drop_length, List.append_nil, mkI_len, decide_eq_false (by omega), cond_false]
  · refine EvL.step (fun k j => laws_markIntS_h0_2_eq k j (m + (i : Int)) (i : Int) (mkI id m i ++ l.drop i)) ?_
    have hn : (mkI id m i ++ l.drop i).length = l.length := by rw [List.length_append, mkI_len, List.length_drop]; omega
    have c1 : (i : Int) < (l.length : Int) := by omega
    have c2 : (0 : Int) ≤ (i : Int) := by omega
    have e1 : IntKind.i64.wrap (m + (i : Int) + 1) = m + ((i + 1 : Nat) : Int) := by rw [w64 (by omega) (by omega)]; omega
    simp only [e1, hn, Int.toNat_natCast, decide_eq_true c1, decide_eq_true c2, decide_eq_true hi, cond_true, w64n i (by omega)]
    have e2 : (mkI id m i ++ l.drop i).set i (m + (i : Int)) = mkI id m (i + 1) ++ l.drop (i + 1) := mkI_step id m l i hi
    rw [e2]
    exact hr

theorem sevens {y : Int} (h0 : 0 ≤ y) (h1 : y ≤ 1000000000) : IntKind.i64.wrap (y + 5 + 1) = y + 6 ∧ IntKind.i64.wrap (y + 6 + 1) = y + 7 :=
  ⟨by rw [w64 (by omega) (by omega)]; omega, by rw [w64 (by omega) (by omega)]; omega⟩

/-- What is written into events: how far it counts. -/
theorem markE (m : Int) (h0 : 0 ≤ m) (h1 : m ≤ 100000000) (l : List Ev7) (hl : l.length ≤ 1048576) : Ok (fun k => laws_markEventS_h0 k m l) (fun b => b.1 = m + 7 * (l.length : Int)) := by
  refine Ok.step (fun k => laws_markEventS_h0_eq k m l) ?_
  have key : ∀ n i (x : List Ev7), l.length - i = n → i ≤ l.length → x.length = l.length → OkL (fun k j => laws_markEventS_h0_2 k j (m + 7 * (i : Int)) (i : Int) x) (fun b => b.1 = m + 7 * (l.length : Int)) := by
    intro n
    induction n with
    | zero =>
      intro i x hn hi hx
      refine OkL.step (fun k j => laws_markEventS_h0_2_eq k j (m + 7 * (i : Int)) (i : Int) x) (OkL.cond (fun h => absurd (of_decide_eq_true h) (by omega)) fun _ => OkL.some ?_)
      show m + 7 * (i : Int) = _
      omega
    | succ n ih =>
      intro i x hn hi hx
      have c1 : (i : Int) < (l.length : Int) := by omega
      have c2 : (0 : Int) ≤ (i : Int) := by omega
      have c3 : i < l.length := by omega
      obtain ⟨f1, f2, f3, f4, f5⟩ := fives (y := m + 7 * (i : Int)) (by omega) (by omega)
      obtain ⟨f6, f7⟩ := sevens (y := m + 7 * (i : Int)) (by omega) (by omega)
      have e1 : m + 7 * (i : Int) + 7 = m + 7 * ((i + 1 : Nat) : Int) := by omega
      refine OkL.step (fun k j => laws_markEventS_h0_2_eq k j (m + 7 * (i : Int)) (i : Int) x) ?_
      simp only [f1, f2, f3, f4, f5, f6, f7, List.length_modify, hx, Int.toNat_natCast, decide_eq_true c1, decide_eq_true c2, decide_eq_true c3, cond_true, w64n i (by omega), e1]
      exact ih (i + 1) _ (by omega) (by omega) (by simp only [List.length_modify]; exact hx)
  have := (key _ 0 l rfl (by omega) rfl).ok
  simpa using this
end Go.Proofs.YtjhldhlmckbapaaGreat.SFnExactHubOuts
set_option linter.unusedVariables false
set_option linter.unusedSimpArgs false
namespace Go.Proofs.YtjhldhlmckbapaaGreat.SFnExactHubOuts
open Go Go.Sx Go.Pl
def sevM (m : Int) : Ev7 := (m, m + 1, m + 2, m + 3, m + 4, m + 5, m + 6)
/-- The row of events that is written, i of them. -/
def mkE (m : Int) (i : Nat) : List Ev7 := (List.range i).map fun (n : Nat) => sevM (m + 7 * (n : Int))

theorem mkE_len (m : Int) (i : Nat) : (mkE m i).length = i := by simp [mkE]

theorem mkE_succ (m : Int) (i : Nat) : mkE m (i + 1) = mkE m i ++ [sevM (m + 7 * (i : Int))] := by simp [mkE, List.range_succ]

theorem mkE_get (m : Int) (n i : Nat) (h : i < n) : (mkE m n).getD i (dflt t_impl_Event) = sevM (m + 7 * (i : Int)) := by
  show (mkE m n).getD i ((0, 0, 0, 0, 0, 0, 0) : Ev7) = _
  rw [List.getD_eq_getElem?_getD, List.getElem?_eq_getElem (by rw [mkE_len]; exact h)]
  simp [mkE]

theorem markES (m : Int) (h0 : 0 ≤ m) (h1 : m ≤ 100000000) (l : List Ev7) (hl : l.length ≤ 1048576) : Ev (fun k => laws_markEventS_h0 k m l) (m + 7 * (l.length : Int), mkE m l.length, ()) := by
  refine Ev.step (fun k => laws_markEventS_h0_eq k m l) ?_
  refine EvL.ev (L := fun k j => laws_markEventS_h0_2 k j m 0 l) ?_
  have := loop_up (fun k j i => laws_markEventS_h0_2 k j (m + 7 * (i : Int)) (i : Int) (mkE m i ++ l.drop i)) l.length (fun _ => (m + 7 * (l.length : Int), mkE m l.length, ())) ?_ (fun i hi hr => ?_) 0 (by omega)
  · simpa [mkE] using this
  · refine EvL.step (M := fun _ _ => some (m + 7 * (l.length : Int), mkE m l.length, ())) (fun k j => ?_) (EvL.now _)
    rw [laws_markEventS_h0_2_eq, List.drop_length, List.append_nil, mkE_len, decide_eq_false (by omega), cond_false]
  · refine EvL.step (fun k j => laws_markEventS_h0_2_eq k j (m + 7 * (i : Int)) (i : Int) (mkE m i ++ l.drop i)) ?_
    have hn : (mkE m i ++ l.drop i).length = l.length := by rw [List.length_append, mkE_len, List.length_drop]; omega
    have c1 : (i : Int) < (l.length : Int) := by omega
    have c2 : (0 : Int) ≤ (i : Int) := by omega
    obtain ⟨f1, f2, f3, f4, f5⟩ := fives (y := m + 7 * (i : Int)) (by omega) (by omega)
    obtain ⟨f6, f7⟩ := sevens (y := m + 7 * (i : Int)) (by omega) (by omega)
    simp only [f1, f2, f3, f4, f5, f6, f7, List.length_modify, hn, Int.toNat_natCast, decide_eq_true c1, decide_eq_true c2, decide_eq_true hi, cond_true, w64n i (by omega), List.modify_modify_eq]
    have e1 : m + 7 * (i : Int) + 7 = m + 7 * ((i + 1 : Nat) : Int) := by omega
    rw [e1]
    refine EvL.congr (fun k j => ?_) hr
    congr 1
    have e2 : l.drop i = l.getD i ((0, 0, 0, 0, 0, 0, 0) : Ev7) :: l.drop (i + 1) := getD_drop l _ i hi
    rw [e2]
    have e3 := fun f => modify_at f (mkE m i) (l.getD i ((0, 0, 0, 0, 0, 0, 0) : Ev7)) (l.drop (i + 1))
    rw [mkE_len] at e3
    rw [e3, mkE_succ, List.append_assoc]
    rfl

end Go.Proofs.YtjhldhlmckbapaaGreat.SFnExactHubOuts
set_option linter.unusedVariables false
set_option linter.unusedSimpArgs false
namespace Go.Proofs.YtjhldhlmckbapaaGreat.SFnExactHubOuts
open Go Go.Sx Go.Pl

theorem modify_drop {α : Type} (l : List α) (i : Nat) (f : α → α) : (l.modify i f).drop (i + 1) = l.drop (i + 1) := by
  rw [List.drop_modify_of_lt]; omega
theorem set_drop {α : Type} (l : List α) (i : Nat) (x : α) : (l.set i x).drop (i + 1) = l.drop (i + 1) := by
  rw [List.drop_set_of_lt]; omega
theorem modify_getD {α : Type} (l : List α) (i : Nat) (f : α → α) (d : α) (h : i < l.length) : (l.modify i f).getD i d = f (l.getD i d) := by
  rw [List.getD_eq_getElem?_getD, List.getD_eq_getElem?_getD, List.getElem?_modify_eq, List.getElem?_eq_getElem h]; rfl
theorem tens {y : Int} (h0 : 0 ≤ y) (h1 : y ≤ 1000000000) : IntKind.i64.wrap (y + 1) = y + 1 ∧ IntKind.i64.wrap (y + 1 + 1) = y + 2 ∧ IntKind.i64.wrap (y + 2 + 1) = y + 3 ∧ IntKind.i64.wrap (y + 3 + 1) = y + 4 ∧ IntKind.i64.wrap (y + 4 + 1) = y + 5 ∧
    IntKind.i64.wrap (y + 5 + 1) = y + 6 ∧ IntKind.i64.wrap (y + 6 + 1) = y + 7 ∧ IntKind.i64.wrap (y + 7 + 1) = y + 8 ∧ IntKind.i64.wrap (y + 8 + 1) = y + 9 ∧ IntKind.i64.wrap (y + 9 + 1) = y + 10 := by
  refine ⟨?_, ?_, ?_, ?_, ?_, ?_, ?_, ?_, ?_, ?_⟩ <;> rw [w64 (by omega) (by omega)] <;> omega
/-- A loop that marks, element by element: how far it counts. -/
theorem mark_loop {α : Type} (L : Nat → Nat → Int → Nat → List α → Option (Int × List α × Unit)) (f : α → Nat) (d : α) (n : Nat) (hend : ∀ k j y xs, xs.length = n → L k (j + 1) y n xs = some (y, xs, ()))
    (hstep : ∀ (i : Nat) (y : Int) (xs : List α) (Q : Int × List α × Unit → Prop), i < n → xs.length = n → 0 ≤ y → y + (f (xs.getD i d) : Int) ≤ 100000000 →
      (∀ xs' : List α, xs'.length = n → xs'.drop (i + 1) = xs.drop (i + 1) → OkL (fun k j => L k j (y + (f (xs.getD i d) : Int)) (i + 1) xs') Q) → OkL (fun k j => L k j y i xs) Q)
    (y : Int) (xs : List α) (hn : xs.length = n) (h0 : 0 ≤ y) (h1 : y + (sumN f xs : Int) ≤ 100000000) : OkL (fun k j => L k j y 0 xs) (fun r => r.1 = y + (sumN f xs : Int)) := by
  have key : ∀ m i (y : Int) (xs : List α) (t : Int), i + m = n → xs.length = n → 0 ≤ y → y + (sumN f (xs.drop i) : Int) = t → t ≤ 100000000 → OkL (fun k j => L k j y i xs) (fun r => r.1 = t) := by
    intro m
    induction m with
    | zero =>
      intro i y xs t hi hn h0 ht h1
      obtain rfl : i = n := by omega
      refine OkL.step (M := fun _ _ => some (y, xs, ())) (fun k j => hend k j y xs hn) (OkL.some ?_)
      rw [List.drop_of_length_le (by omega)] at ht
      simpa [sumN] using ht
    | succ m ih =>
      intro i y xs t hi hn h0 ht h1
      rw [sumN_drop f xs d i (by omega)] at ht
      refine hstep i y xs _ (by omega) hn h0 (by omega) fun xs' hn' hd => ih (i + 1) _ xs' t (by omega) hn' (by omega) ?_ h1
      rw [hd]; omega
  exact key n 0 y xs _ (by omega) hn h0 (by rw [List.drop_zero]) h1
theorem sum_const {α : Type} (c : Nat) (l : List α) : sumN (fun _ => c) l = c * l.length := by
  unfold sumN
  induction l with
  | nil => rfl
  | cons x l ih => rw [List.map_cons, List.sum_cons, ih, List.length_cons, Nat.mul_add]; omega
theorem len_sum {α : Type} {f : α → Nat} (h : ∀ x, 1 ≤ f x) (l : List α) : l.length ≤ sumN f l := by
  unfold sumN
  induction l with
  | nil => simp
  | cons x l ih => rw [List.map_cons, List.sum_cons, List.length_cons]; have := h x; omega
theorem markE_ok (y : Int) (l : List Ev7) (h0 : 0 ≤ y) (h1 : y + 7 * (l.length : Int) ≤ 100000000) : Ok (fun k => laws_markEventS_h0 k y l) (fun r => @Eq Int r.1 (y + 7 * (l.length : Int))) := by
  refine Ok.step (fun k => laws_markEventS_h0_eq k y l) ?_
  have := mark_loop (fun k j y i xs => laws_markEventS_h0_2 k j y (i : Int) xs) (fun _ => 7) (dflt t_impl_Event) l.length (fun k j y xs hn => ?_) (fun i y xs Q hi hn h0 h1 hc => ?_) y l rfl h0 (by rw [sum_const]; omega)
  · rw [sum_const] at this
    exact OkL.ok (L := fun k j => laws_markEventS_h0_2 k j y 0 l) (this.imp fun r hr => by rw [hr]; omega)
  · rw [laws_markEventS_h0_2_eq, decide_eq_false (by omega), cond_false]
  · have c1 : (i : Int) < (l.length : Int) := by omega
    have c2 : (0 : Int) ≤ (i : Int) := by omega
    have h1 : y + 7 ≤ 100000000 := h1
    obtain ⟨f1, f2, f3, f4, f5, f6, f7, _⟩ := tens (y := y) h0 (by omega)
    refine OkL.step (fun k j => laws_markEventS_h0_2_eq k j y (i : Int) xs) ?_
    simp only [List.length_modify, hn, decide_eq_true c1, decide_eq_true c2, decide_eq_true hi, cond_true, Int.toNat_natCast, f1, f2, f3, f4, f5, f6, f7, w64n i (by omega), List.modify_modify_eq]
    exact hc _ (by simp [hn]) (modify_drop _ _ _)
theorem markO_ok (y : Int) (l : List Ou5) (h0 : 0 ≤ y) (h1 : y + 5 * (l.length : Int) ≤ 100000000) : Ok (fun k => laws_markOutS_h0 k y l) (fun r => @Eq Int r.1 (y + 5 * (l.length : Int))) := by
  refine Ok.step (fun k => laws_markOutS_h0_eq k y l) ?_
  have := mark_loop (fun k j y i xs => laws_markOutS_h0_2 k j y (i : Int) xs) (fun _ => 5) (dflt t_impl_Out) l.length (fun k j y xs hn => ?_) (fun i y xs Q hi hn h0 h1 hc => ?_) y l rfl h0 (by rw [sum_const]; omega)
  · rw [sum_const] at this
    exact OkL.ok (L := fun k j => laws_markOutS_h0_2 k j y 0 l) (this.imp fun r hr => by rw [hr]; omega)
  · rw [laws_markOutS_h0_2_eq, decide_eq_false (by omega), cond_false]
  · have c1 : (i : Int) < (l.length : Int) := by omega
    have c2 : (0 : Int) ≤ (i : Int) := by omega
    have h1 : y + 5 ≤ 100000000 := h1
    obtain ⟨f1, f2, f3, f4, f5, _⟩ := tens (y := y) h0 (by omega)
    refine OkL.step (fun k j => laws_markOutS_h0_2_eq k j y (i : Int) xs) ?_
    simp only [List.length_modify, hn, decide_eq_true c1, decide_eq_true c2, decide_eq_true hi, cond_true, Int.toNat_natCast, f1, f2, f3, f4, f5, w64n i (by omega), List.modify_modify_eq]
    exact hc _ (by simp [hn]) (modify_drop _ _ _)
theorem markI_ok (y : Int) (l : List Int) (h0 : 0 ≤ y) (h1 : y + (l.length : Int) ≤ 100000000) : Ok (fun k => laws_markIntS_h0 k y l) (fun r => @Eq Int r.1 (y + (l.length : Int))) := by
  refine Ok.step (fun k => laws_markIntS_h0_eq k y l) ?_
  have := mark_loop (fun k j y i xs => laws_markIntS_h0_2 k j y (i : Int) xs) (fun _ => 1) (dflt t_int) l.length (fun k j y xs hn => ?_) (fun i y xs Q hi hn h0 h1 hc => ?_) y l rfl h0 (by rw [sum_const]; omega)
  · rw [sum_const] at this
    exact OkL.ok (L := fun k j => laws_markIntS_h0_2 k j y 0 l) (this.imp fun r hr => by rw [hr]; omega)
  · rw [laws_markIntS_h0_2_eq, decide_eq_false (by omega), cond_false]
  · have c1 : (i : Int) < (l.length : Int) := by omega
    have c2 : (0 : Int) ≤ (i : Int) := by omega
    have h1 : y + 1 ≤ 100000000 := h1
    refine OkL.step (M := fun k j => laws_markIntS_h0_2 k j (y + 1) ((i + 1 : Nat) : Int) (xs.set i y)) (fun k j => ?_) (hc _ (by simp [hn]) (set_drop xs i y))
    rw [laws_markIntS_h0_2_eq]
    simp only [hn, decide_eq_true c1, decide_eq_true c2, decide_eq_true hi, cond_true, Int.toNat_natCast, w64n i (by omega), w64 (show -9223372036854775808 ≤ y + 1 by omega) (by omega)]
end Go.Proofs.YtjhldhlmckbapaaGreat.SFnExactHubOuts
set_option linter.unusedVariables false
set_option linter.unusedSimpArgs false
namespace Go.Proofs.YtjhldhlmckbapaaGreat.SFnExactHubOuts
open Go Go.Sx Go.Pl

def mkVw (x : Vw) : Nat := 2 + 7 * x.2.2.length
def mkPa (x : Pa) : Nat := 10 + 7 * x.2.2.1.length + 5 * x.2.2.2.length
def mkLa (x : La) : Nat := 4 + sumN mkPa x.2.2
theorem markV_ok (y : Int) (l : List Vw) (h0 : 0 ≤ y) (h1 : y + (sumN mkVw l : Int) ≤ 100000000) : Ok (fun k => laws_markViewS_h0 k y l) (fun r => @Eq Int r.1 (y + (sumN mkVw l : Int))) := by
  have hl : l.length ≤ 100000000 := by have := len_sum (f := mkVw) (fun x => by unfold mkVw; omega) l; omega
  refine Ok.step (fun k => laws_markViewS_h0_eq k y l) ?_
  refine OkL.ok (L := fun k j => laws_markViewS_h0_2 k j y 0 l) ?_
  refine mark_loop (fun k j y i xs => laws_markViewS_h0_2 k j y (i : Int) xs) mkVw (dflt t_impl_View) l.length (fun k j y xs hn => ?_) (fun i y xs Q hi hn h0 h1 hc => ?_) y l rfl h0 h1
  · rw [laws_markViewS_h0_2_eq, decide_eq_false (by omega), cond_false]
  · have c1 : (i : Int) < (l.length : Int) := by omega
    have c2 : (0 : Int) ≤ (i : Int) := by omega
    have hi' : i < xs.length := by omega
    have hg := fun f => modify_getD xs i f (dflt t_impl_View) hi'
    have hm : (mkVw (xs.getD i (dflt t_impl_View)) : Int) = 2 + 7 * ((xs.getD i (dflt t_impl_View)).2.2.length : Int) := by unfold mkVw; omega
    rw [hm] at h1 hc
    obtain ⟨f1, f2, _⟩ := tens (y := y) h0 (by omega)
    refine OkL.step (fun k j => laws_markViewS_h0_2_eq k j y (i : Int) xs) ?_
    simp only [List.length_modify, hn, decide_eq_true c1, decide_eq_true c2, decide_eq_true hi, cond_true, Int.toNat_natCast, f1, f2, w64n i (by omega), List.modify_modify_eq, hg, Function.comp_apply]
    refine OkL.bind (markE_ok (y + 2) _ (by omega) (by omega)) fun b hb => ?_
    have hb' : @Eq Int b.1 (y + (2 + 7 * ((xs.getD i (dflt t_impl_View)).2.2.length : Int))) := by rw [hb]; omega
    rw [hb']
    exact hc _ (by simp [hn]) (modify_drop _ _ _)
theorem markP_ok (y : Int) (l : List Pa) (h0 : 0 ≤ y) (h1 : y + (sumN mkPa l : Int) ≤ 100000000) : Ok (fun k => laws_markPastS_h0 k y l) (fun r => @Eq Int r.1 (y + (sumN mkPa l : Int))) := by
  have hl : l.length ≤ 100000000 := by have := len_sum (f := mkPa) (fun x => by unfold mkPa; omega) l; omega
  refine Ok.step (fun k => laws_markPastS_h0_eq k y l) ?_
  refine OkL.ok (L := fun k j => laws_markPastS_h0_2 k j y 0 l) ?_
  refine mark_loop (fun k j y i xs => laws_markPastS_h0_2 k j y (i : Int) xs) mkPa (dflt t_impl_Past) l.length (fun k j y xs hn => ?_) (fun i y xs Q hi hn h0 h1 hc => ?_) y l rfl h0 h1
  · rw [laws_markPastS_h0_2_eq, decide_eq_false (by omega), cond_false]
  · have c1 : (i : Int) < (l.length : Int) := by omega
    have c2 : (0 : Int) ≤ (i : Int) := by omega
    have hi' : i < xs.length := by omega
    have hg := fun f => modify_getD xs i f (dflt t_impl_Past) hi'
    have hm : (mkPa (xs.getD i (dflt t_impl_Past)) : Int) = 10 + 7 * ((xs.getD i (dflt t_impl_Past)).2.2.1.length : Int) + 5 * ((xs.getD i (dflt t_impl_Past)).2.2.2.length : Int) := by unfold mkPa; omega
    rw [hm] at h1 hc
    obtain ⟨f1, f2, f3, f4, f5, f6, f7, f8, f9, f10⟩ := tens (y := y) h0 (by omega)
    refine OkL.step (fun k j => laws_markPastS_h0_2_eq k j y (i : Int) xs) ?_
    simp only [List.length_modify, hn, decide_eq_true c1, decide_eq_true c2, decide_eq_true hi, cond_true, Int.toNat_natCast, f1, f2, f3, f4, f5, f6, f7, f8, f9, f10, w64n i (by omega), List.modify_modify_eq, hg, Function.comp_apply]
    refine OkL.bind (markE_ok (y + 10) _ (by omega) (by omega)) fun b hb => ?_
    refine OkL.bind (markO_ok b.1 _ (by omega) (by omega)) fun c hc2 => ?_
    have hb' : @Eq Int c.1 (y + (10 + 7 * ((xs.getD i (dflt t_impl_Past)).2.2.1.length : Int) + 5 * ((xs.getD i (dflt t_impl_Past)).2.2.2.length : Int))) := by rw [hc2, hb]; omega
    rw [hb']
    exact hc _ (by simp [hn]) (modify_drop _ _ _)
theorem markL_ok (y : Int) (l : List La) (h0 : 0 ≤ y) (h1 : y + (sumN mkLa l : Int) ≤ 100000000) : Ok (fun k => laws_markLaneS_h0 k y l) (fun r => @Eq Int r.1 (y + (sumN mkLa l : Int))) := by
  have hl : l.length ≤ 100000000 := by have := len_sum (f := mkLa) (fun x => by unfold mkLa; omega) l; omega
  refine Ok.step (fun k => laws_markLaneS_h0_eq k y l) ?_
  refine OkL.ok (L := fun k j => laws_markLaneS_h0_2 k j y 0 l) ?_
  refine mark_loop (fun k j y i xs => laws_markLaneS_h0_2 k j y (i : Int) xs) mkLa (dflt t_impl_Lane) l.length (fun k j y xs hn => ?_) (fun i y xs Q hi hn h0 h1 hc => ?_) y l rfl h0 h1
  · rw [laws_markLaneS_h0_2_eq, decide_eq_false (by omega), cond_false]
  · have c1 : (i : Int) < (l.length : Int) := by omega
    have c2 : (0 : Int) ≤ (i : Int) := by omega
    have hi' : i < xs.length := by omega
    have hg := fun f => modify_getD xs i f (dflt t_impl_Lane) hi'
    have hm : (mkLa (xs.getD i (dflt t_impl_Lane)) : Int) = 4 + (sumN mkPa (xs.getD i (dflt t_impl_Lane)).2.2 : Int) := by unfold mkLa; omega
    rw [hm] at h1 hc
    obtain ⟨f1, f2, f3, f4, _⟩ := tens (y := y) h0 (by omega)
    refine OkL.step (fun k j => laws_markLaneS_h0_2_eq k j y (i : Int) xs) ?_
    simp only [List.length_modify, hn, decide_eq_true c1, decide_eq_true c2, decide_eq_true hi, cond_true, Int.toNat_natCast, f1, f2, f3, f4, w64n i (by omega), List.modify_modify_eq, hg, Function.comp_apply]
    refine OkL.bind (markP_ok (y + 4) _ (by omega) (by omega)) fun b hb => ?_
    have hb' : @Eq Int b.1 (y + (4 + (sumN mkPa (xs.getD i (dflt t_impl_Lane)).2.2 : Int))) := by rw [hb]; omega
    rw [hb']
    exact hc _ (by simp [hn]) (modify_drop _ _ _)
theorem mk_bound (n : Nd) : sumN mkLa n.2.2.2.2.1 + (7 * n.2.2.2.2.2.1.length + (5 * n.2.2.2.2.2.2.1.length + (sumN mkVw n.2.2.2.2.2.2.2.2.2.1 + n.2.2.2.2.2.2.2.2.2.2.1.length))) ≤ 10 * wNd n := by
  have hp : ∀ x : Pa, mkPa x ≤ 10 + 7 * wPa x := fun x => by unfold mkPa wPa; omega
  have hl : ∀ x : La, mkLa x ≤ 4 + 10 * wLa x := fun x => by
    unfold mkLa wLa wPs
    have := sumN_add hp x.2.2
    omega
  have hv : ∀ x : Vw, mkVw x ≤ 2 + 7 * wVw x := fun x => by unfold mkVw wVw; omega
  have h1 := sumN_add hl n.2.2.2.2.1
  have h2 := sumN_add hv n.2.2.2.2.2.2.2.2.2.1
  unfold wNd wLs wVs
  omega
theorem markNode_ok (y : Int) (n : Nd) (h0 : 0 ≤ y) (hw : y + 10 * (wNd n : Int) ≤ 100000000) : Ok (fun k => laws_markNode_h0 k n.1 n.2.1 n.2.2.1 n.2.2.2.1 n.2.2.2.2.2.2.2.1 n.2.2.2.2.2.2.2.2.1 n.2.2.2.2.2.2.2.2.2.2.2.1 n.2.2.2.2.2.2.2.2.2.2.2.2 y n.2.2.2.2.1 n.2.2.2.2.2.1 n.2.2.2.2.2.2.1 n.2.2.2.2.2.2.2.2.2.1 n.2.2.2.2.2.2.2.2.2.2.1) (fun r => (0 : Int) ≤ r.1) := by
  have hb := mk_bound n
  refine Ok.step (fun k => laws_markNode_h0_eq k n.1 n.2.1 n.2.2.1 n.2.2.2.1 n.2.2.2.2.2.2.2.1 n.2.2.2.2.2.2.2.2.1 n.2.2.2.2.2.2.2.2.2.2.2.1 n.2.2.2.2.2.2.2.2.2.2.2.2 y n.2.2.2.2.1 n.2.2.2.2.2.1 n.2.2.2.2.2.2.1 n.2.2.2.2.2.2.2.2.2.1 n.2.2.2.2.2.2.2.2.2.2.1) ?_
  refine Ok.bind (markL_ok y _ (by omega) (by omega)) fun b1 h1 => ?_
  refine Ok.bind (markE_ok b1.1 _ (by omega) (by omega)) fun b2 h2 => ?_
  refine Ok.bind (markO_ok b2.1 _ (by omega) (by omega)) fun b3 h3 => ?_
  refine Ok.bind (markV_ok b3.1 _ (by omega) (by omega)) fun b4 h4 => ?_
  refine Ok.bind (markI_ok b4.1 _ (by omega) (by omega)) fun b5 h5 => ?_
  exact Ok.some (show (0 : Int) ≤ b5.1 by omega)
/-- What the laws count in a node stays above nothing. -/
theorem mark_ndY {α : Type} {n : Nd} {r : Int} {f : Nat → Option α} {v : α} (y : Int) (hy : 0 ≤ y) (hw : y + 10 * (wNd n : Int) ≤ 100000000) (z : α) (hf : Ev f v) :
    Ev (fun k => (laws_markNode_h0 k n.1 n.2.1 n.2.2.1 n.2.2.2.1 n.2.2.2.2.2.2.2.1 n.2.2.2.2.2.2.2.2.1 n.2.2.2.2.2.2.2.2.2.2.2.1 n.2.2.2.2.2.2.2.2.2.2.2.2 y n.2.2.2.2.1 n.2.2.2.2.2.1 n.2.2.2.2.2.2.1 n.2.2.2.2.2.2.2.2.2.1 n.2.2.2.2.2.2.2.2.2.2.1).bind fun x => cond (decide (x.1 < 0)) (some z) (f k)) v := by
  obtain ⟨b, hb, hp⟩ := markNode_ok y n hy hw
  refine Ev.bind hb ?_
  have hn : ¬ (@LT.lt Int _ b.1 0) := by omega
  refine Ev.cond (fun h => absurd (of_decide_eq_true h) hn) fun _ => hf
theorem mark_nd {α : Type} {n : Nd} {r : Int} {f : Nat → Option α} {y : α} (hl : LongNd n) (hr : Ev (fun k => laws_szNode k n 1048576) r) (h0 : 0 ≤ r) (z : α) (hf : Ev f y) :
    Ev (fun k => (laws_markNode_h0 k n.1 n.2.1 n.2.2.1 n.2.2.2.1 n.2.2.2.2.2.2.2.1 n.2.2.2.2.2.2.2.2.1 n.2.2.2.2.2.2.2.2.2.2.2.1 n.2.2.2.2.2.2.2.2.2.2.2.2 1 n.2.2.2.2.1 n.2.2.2.2.2.1 n.2.2.2.2.2.2.1 n.2.2.2.2.2.2.2.2.2.1 n.2.2.2.2.2.2.2.2.2.2.1).bind fun x => cond (decide (x.1 < 0)) (some z) (f k)) y := by
  have hw := (szNode_W n 1048576 (by decide) (by decide) hl).of hr h0
  exact mark_ndY (r := r) 1 (by decide) (by omega) z hf
end Go.Proofs.YtjhldhlmckbapaaGreat.SFnExactHubOuts
set_option linter.unusedVariables false
set_option linter.unusedSimpArgs false
namespace Go.Proofs.YtjhldhlmckbapaaGreat.SFnExactHubOuts
open Go Go.Sx Go.Pl

def wWo (x : Wo) : Nat := x.2.2.2.2.2.2.2.1.length + (x.2.2.2.2.2.2.2.2.1.length + (x.2.2.2.2.2.2.2.2.2.1.length + x.2.2.2.2.2.2.2.2.2.2.length))
def wWs (l : List Wo) : Nat := l.length + sumN wWo l
def wHu (x : Hu) : Nat := wWs x.2.1 + (wWs x.2.2.1 + wWs x.2.2.2)
theorem szWord_W (x : Wo) (c : Int) (h0 : 0 ≤ c) (h1 : c ≤ 1048576) (hl : LongWo x) : SzW (fun k => laws_szWord k x c) (wWo x) c :=
  SzW.step (fun k => laws_szWord_eq k x c) (SzW.and (szIntS_W _ c h0 h1 hl.1) h1 fun r hr hr1 => SzW.and (szIntS_W _ r hr hr1 hl.2.1) hr1 fun r hr hr1 => SzW.and (szEventS_W _ r hr hr1 hl.2.2.1) hr1 fun r hr hr1 => SzW.end_ (szOutS_W _ r hr hr1 hl.2.2.2) hr1)
theorem szWordS_W (l : List Wo) (c : Int) (h0 : 0 ≤ c) (h1 : c ≤ 1048576) (h : LongWs l) : SzW (fun k => laws_szWordS k l c) (wWs l) c := by
  have hl := h.1
  refine szW_list (fun k => laws_szWordS k l c) (fun k j c i => laws_szWordS_5 k j l c (i : Int)) l (dflt t_laws_Word) wWo c h0 h1 hl (fun k => laws_szWordS_eq k l c) (fun k j c => ?_) fun i hi c h0 h1 => ⟨_, szWord_W _ c h0 h1 (h.2 _ (getD_mem _ (dflt t_laws_Word) i hi)), fun k j => ?_⟩
  · rw [laws_szWordS_5_eq, decide_eq_false (by omega), cond_false]
  · have c1 : (i : Int) < (l.length : Int) := by omega
    have c2 : (0 : Int) ≤ (i : Int) := by omega
    have hb : i < 9223372036854775807 := by unfold maxLen at hl; omega
    rw [laws_szWordS_5_eq]
    simp only [decide_eq_true c1, decide_eq_true c2, cond_true, Int.toNat_natCast, w64n i hb]
theorem szHub_W (x : Hu) (c : Int) (h0 : 0 ≤ c) (h1 : c ≤ 1048576) (h : LongHu x) : SzW (fun k => laws_szHub k x c) (wHu x) c :=
  SzW.step (fun k => laws_szHub_eq k x c) (SzW.and (szWordS_W _ c h0 h1 h.1) h1 fun r hr hr1 => SzW.and (szWordS_W _ r hr hr1 h.2.1) hr1 fun r hr hr1 => SzW.end_ (szWordS_W _ r hr hr1 h.2.2) hr1)
def mkWo (x : Wo) : Nat := 7 + x.2.2.2.2.2.2.2.1.length + x.2.2.2.2.2.2.2.2.1.length + 7 * x.2.2.2.2.2.2.2.2.2.1.length + 5 * x.2.2.2.2.2.2.2.2.2.2.length
theorem markW_ok (y : Int) (l : List Wo) (h0 : 0 ≤ y) (h1 : y + (sumN mkWo l : Int) ≤ 100000000) : Ok (fun k => laws_markWordS_h0 k y l) (fun r => @Eq Int r.1 (y + (sumN mkWo l : Int))) := by
  have hl : l.length ≤ 100000000 := by have := len_sum (f := mkWo) (fun x => by unfold mkWo; omega) l; omega
  refine Ok.step (fun k => laws_markWordS_h0_eq k y l) ?_
  refine OkL.ok (L := fun k j => laws_markWordS_h0_2 k j y 0 l) ?_
  refine mark_loop (fun k j y i xs => laws_markWordS_h0_2 k j y (i : Int) xs) mkWo (dflt t_impl_Word) l.length (fun k j y xs hn => ?_) (fun i y xs Q hi hn h0 h1 hc => ?_) y l rfl h0 h1
  · rw [laws_markWordS_h0_2_eq, decide_eq_false (by omega), cond_false]
  · have c1 : (i : Int) < (l.length : Int) := by omega
    have c2 : (0 : Int) ≤ (i : Int) := by omega
    have hi' : i < xs.length := by omega
    have hg := fun f => modify_getD xs i f (dflt t_impl_Word) hi'
    have hm : (mkWo (xs.getD i (dflt t_impl_Word)) : Int) = 7 + ((xs.getD i (dflt t_impl_Word)).2.2.2.2.2.2.2.1.length : Int) + ((xs.getD i (dflt t_impl_Word)).2.2.2.2.2.2.2.2.1.length : Int) + 7 * ((xs.getD i (dflt t_impl_Word)).2.2.2.2.2.2.2.2.2.1.length : Int) + 5 * ((xs.getD i (dflt t_impl_Word)).2.2.2.2.2.2.2.2.2.2.length : Int) := by unfold mkWo; omega
    rw [hm] at h1 hc
    obtain ⟨f1, f2, f3, f4, f5, f6, f7, _⟩ := tens (y := y) h0 (by omega)
    refine OkL.step (fun k j => laws_markWordS_h0_2_eq k j y (i : Int) xs) ?_
    simp only [List.length_modify, hn, decide_eq_true c1, decide_eq_true c2, decide_eq_true hi, cond_true, Int.toNat_natCast, f1, f2, f3, f4, f5, f6, f7, w64n i (by omega), List.modify_modify_eq, hg, Function.comp_apply]
    refine OkL.bind (markI_ok (y + 7) _ (by omega) (by omega)) fun b1 q1 => ?_
    refine OkL.bind (markI_ok b1.1 _ (by omega) (by omega)) fun b2 q2 => ?_
    refine OkL.bind (markE_ok b2.1 _ (by omega) (by omega)) fun b3 q3 => ?_
    refine OkL.bind (markO_ok b3.1 _ (by omega) (by omega)) fun b4 q4 => ?_
    have hb' : @Eq Int b4.1 (y + (7 + ((xs.getD i (dflt t_impl_Word)).2.2.2.2.2.2.2.1.length : Int) + ((xs.getD i (dflt t_impl_Word)).2.2.2.2.2.2.2.2.1.length : Int) + 7 * ((xs.getD i (dflt t_impl_Word)).2.2.2.2.2.2.2.2.2.1.length : Int) + 5 * ((xs.getD i (dflt t_impl_Word)).2.2.2.2.2.2.2.2.2.2.length : Int))) := by rw [q4, q3, q2, q1]; omega
    rw [hb']
    exact hc _ (by simp [hn]) (modify_drop _ _ _)
theorem mkW_bound (l : List Wo) : sumN mkWo l ≤ 10 * wWs l := by
  have hp : ∀ x : Wo, mkWo x ≤ 7 + 7 * wWo x := fun x => by unfold mkWo wWo; omega
  have h1 := sumN_add hp l
  unfold wWs
  omega
theorem markHub_ok (y a : Int) (x : Hu) (h0 : 0 ≤ y) (hw : y + 10 * (wHu x : Int) ≤ 100000000) : Ok (fun k => laws_markHub_h0 k a y x.2.1 x.2.2.1 x.2.2.2) (fun r => @LE.le Int _ y r.1 ∧ @LE.le Int _ r.1 (y + 10 * (wHu x : Int))) := by
  have b1 := mkW_bound x.2.1
  have b2 := mkW_bound x.2.2.1
  have b3 := mkW_bound x.2.2.2
  have hx : wHu x = wWs x.2.1 + (wWs x.2.2.1 + wWs x.2.2.2) := rfl
  refine Ok.step (fun k => laws_markHub_h0_eq k a y x.2.1 x.2.2.1 x.2.2.2) ?_
  refine Ok.bind (markW_ok y _ (by omega) (by omega)) fun c1 h1 => ?_
  refine Ok.bind (markW_ok c1.1 _ (by omega) (by omega)) fun c2 h2 => ?_
  refine Ok.bind (markW_ok c2.1 _ (by omega) (by omega)) fun c3 h3 => ?_
  exact Ok.some (show (@LE.le Int _ y c3.1 ∧ @LE.le Int _ c3.1 (y + 10 * (wHu x : Int))) by omega)
end Go.Proofs.YtjhldhlmckbapaaGreat.SFnExactHubOuts
