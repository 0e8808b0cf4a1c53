/- What the laws write into a node: how far they count. -/
import Derived.Test.YtkggdegpdmnjoaaGreatSumPlFnExactNodeKeep
import Derived.Test.YtkggdegpdmnjoaaGreatMarkEPlFnExactNodeKeep
set_option linter.unusedVariables false
set_option linter.unusedSimpArgs false
namespace Go.Proofs.YtkggdegpdmnjoaaGreat.SFnExactNodeKeep
open Go Go.Sx Go.Pl

theorem modify_drop {α : Type} (l : List α) (i : Nat) (f : α → α) : (l.modify i f).drop (i + 1) = l.drop (i + 1) := by
  rw [List.drop_modify_of_lt]; omega
theorem set_drop {α : Type} (l : List α) (i : Nat) (x : α) : (l.set i x).drop (i + 1) = l.drop (i + 1) := by
  rw [List.drop_set_of_lt]; omega
theorem modify_getD {α : Type} (l : List α) (i : Nat) (f : α → α) (d : α) (h : i < l.length) : (l.modify i f).getD i d = f (l.getD i d) := by
  rw [List.getD_eq_getElem?_getD, List.getD_eq_getElem?_getD, List.getElem?_modify_eq, List.getElem?_eq_getElem h]; rfl
theorem tens {y : Int} (h0 : 0 ≤ y) (h1 : y ≤ 1000000000) : IntKind.i64.wrap (y + 1) = y + 1 ∧ IntKind.i64.wrap (y + 1 + 1) = y + 2 ∧ IntKind.i64.wrap (y + 2 + 1) = y + 3 ∧ IntKind.i64.wrap (y + 3 + 1) = y + 4 ∧ IntKind.i64.wrap (y + 4 + 1) = y + 5 ∧
    IntKind.i64.wrap (y + 5 + 1) = y + 6 ∧ IntKind.i64.wrap (y + 6 + 1) = y + 7 ∧ IntKind.i64.wrap (y + 7 + 1) = y + 8 ∧ IntKind.i64.wrap (y + 8 + 1) = y + 9 ∧ IntKind.i64.wrap (y + 9 + 1) = y + 10 := by
  refine ⟨?_, ?_, ?_, ?_, ?_, ?_, ?_, ?_, ?_, ?_⟩ <;> rw [w64 (by omega) (by omega)] <;> omega
/-- A loop that marks, element by element: how far it counts. -/
theorem mark_loop {α : Type} (L : Nat → Nat → Int → Nat → List α → Option (Int × List α × Unit)) (f : α → Nat) (d : α) (n : Nat) (hend : ∀ k j y xs, xs.length = n → L k (j + 1) y n xs = some (y, xs, ()))
    (hstep : ∀ (i : Nat) (y : Int) (xs : List α) (Q : Int × List α × Unit → Prop), i < n → xs.length = n → 0 ≤ y → y + (f (xs.getD i d) : Int) ≤ 100000000 →
      (∀ xs' : List α, xs'.length = n → xs'.drop (i + 1) = xs.drop (i + 1) → OkL (fun k j => L k j (y + (f (xs.getD i d) : Int)) (i + 1) xs') Q) → OkL (fun k j => L k j y i xs) Q)
    (y : Int) (xs : List α) (hn : xs.length = n) (h0 : 0 ≤ y) (h1 : y + (sumN f xs : Int) ≤ 100000000) : OkL (fun k j => L k j y 0 xs) (fun r => r.1 = y + (sumN f xs : Int)) := by
  have key : ∀ m i (y : Int) (xs : List α) (t : Int), i + m = n → xs.length = n → 0 ≤ y → y + (sumN f (xs.drop i) : Int) = t → t ≤ 100000000 → OkL (fun k j => L k j y i xs) (fun r => r.1 = t) := by
    intro m
    induction m with
    | zero =>
      intro i y xs t hi hn h0 ht h1
      obtain rfl : i = n := by omega
      refine OkL.step (M := fun _ _ => some (y, xs, ())) (fun k j => hend k j y xs hn) (OkL.some ?_)
      rw [List.drop_of_length_le (by omega)] at ht
      simpa [sumN] using ht
    | succ m ih =>
      intro i y xs t hi hn h0 ht h1
      rw [sumN_drop f xs d i (by omega)] at ht
      refine hstep i y xs _ (by omega) hn h0 (by omega) fun xs' hn' hd => ih (i + 1) _ xs' t (by omega) hn' (by omega) ?_ h1
      rw [hd]; omega
  exact key n 0 y xs _ (by omega) hn h0 (by rw [List.drop_zero]) h1
theorem sum_const {α : Type} (c : Nat) (l : List α) : sumN (fun _ => c) l = c * l.length := by
  unfold sumN
  induction l with
  | nil => rfl
  | cons x l ih => rw [List.map_cons, List.sum_cons, ih, List.length_cons, Nat.mul_add]; omega
theorem len_sum {α : Type} {f : α → Nat} (h : ∀ x, 1 ≤ f x) (l : List α) : l.length ≤ sumN f l := by
  unfold sumN
  induction l with
  | nil => simp
  | cons x l ih => rw [List.map_cons, List.sum_cons, List.length_cons]; have := h x; omega
theorem markE_ok (y : Int) (l : List Ev7) (h0 : 0 ≤ y) (h1 : y + 7 * (l.length : Int) ≤ 100000000) : Ok (fun k => laws_markEventS_h0 k y l) (fun r => @Eq Int r.1 (y + 7 * (l.length : Int))) := by
  refine Ok.step (fun k => laws_markEventS_h0_eq k y l) ?_
  have := mark_loop (fun k j y i xs => laws_markEventS_h0_2 k j y (i : Int) xs) (fun _ => 7) (dflt t_impl_Event) l.length (fun k j y xs hn => ?_) (fun i y xs Q hi hn h0 h1 hc => ?_) y l rfl h0 (by rw [sum_const]; omega)
  · rw [sum_const] at this
    exact OkL.ok (L := fun k j => laws_markEventS_h0_2 k j y 0 l) (this.imp fun r hr => by rw [hr]; omega)
  · rw [laws_markEventS_h0_2_eq, decide_eq_false (by omega), cond_false]
  · have c1 : (i : Int) < (l.length : Int) := by omega
    have c2 : (0 : Int) ≤ (i : Int) := by omega
    have h1 : y + 7 ≤ 100000000 := h1
    obtain ⟨f1, f2, f3, f4, f5, f6, f7, _⟩ := tens (y := y) h0 (by omega)
    refine OkL.step (fun k j => laws_markEventS_h0_2_eq k j y (i : Int) xs) ?_
    simp only [List.length_modify, hn, decide_eq_true c1, decide_eq_true c2, decide_eq_true hi, cond_true, Int.toNat_natCast, f1, f2, f3, f4, f5, f6, f7, w64n i (by omega), List.modify_modify_eq]
    exact hc _ (by simp [hn]) (modify_drop _ _ _)
theorem markO_ok (y : Int) (l : List Ou5) (h0 : 0 ≤ y) (h1 : y + 5 * (l.length : Int) ≤ 100000000) : Ok (fun k => laws_markOutS_h0 k y l) (fun r => @Eq Int r.1 (y + 5 * (l.length : Int))) := by
  refine Ok.step (fun k => laws_markOutS_h0_eq k y l) ?_
  have := mark_loop (fun k j y i xs => laws_markOutS_h0_2 k j y (i : Int) xs) (fun _ => 5) (dflt t_impl_Out) l.length (fun k j y xs hn => ?_) (fun i y xs Q hi hn h0 h1 hc => ?_) y l rfl h0 (by rw [sum_const]; omega)
  · rw [sum_const] at this
    exact OkL.ok (L := fun k j => laws_markOutS_h0_2 k j y 0 l) (this.imp fun r hr => by rw [hr]; omega)
  · rw [laws_markOutS_h0_2_eq, decide_eq_false (by omega), cond_false]
  · have c1 : (i : Int) < (l.length : Int) := by omega
    have c2 : (0 : Int) ≤ (i : Int) := by omega
    have h1 : y + 5 ≤ 100000000 := h1
    obtain ⟨f1, f2, f3, f4, f5, _⟩ := tens (y := y) h0 (by omega)
    refine OkL.step (fun k j => laws_markOutS_h0_2_eq k j y (i : Int) xs) ?_
    simp only [List.length_modify, hn, decide_eq_true c1, decide_eq_true c2, decide_eq_true hi, cond_true, Int.toNat_natCast, f1, f2, f3, f4, f5, w64n i (by omega), List.modify_modify_eq]
    exact hc _ (by simp [hn]) (modify_drop _ _ _)
theorem markI_ok (y : Int) (l : List Int) (h0 : 0 ≤ y) (h1 : y + (l.length : Int) ≤ 100000000) : Ok (fun k => laws_markIntS_h0 k y l) (fun r => @Eq Int r.1 (y + (l.length : Int))) := by
  refine Ok.step (fun k => laws_markIntS_h0_eq k y l) ?_
  have := mark_loop (fun k j y i xs => laws_markIntS_h0_2 k j y (i : Int) xs) (fun _ => 1) (dflt t_int) l.length (fun k j y xs hn => ?_) (fun i y xs Q hi hn h0 h1 hc => ?_) y l rfl h0 (by rw [sum_const]; omega)
  · rw [sum_const] at this
    exact OkL.ok (L := fun k j => laws_markIntS_h0_2 k j y 0 l) (this.imp fun r hr => by rw [hr]; omega)
  · rw [laws_markIntS_h0_2_eq, decide_eq_false (by omega), cond_false]
  · have c1 : (i : Int) < (l.length : Int) := by omega
    have c2 : (0 : Int) ≤ (i : Int) := by omega
    have h1 : y + 1 ≤ 100000000 := h1
    refine OkL.step (M := fun k j => laws_markIntS_h0_2 k j (y + 1) ((i + 1 : Nat) : Int) (xs.set i y)) (fun k j => ?_) (hc _ (by simp [hn]) (set_drop xs i y))
    rw [laws_markIntS_h0_2_eq]
    simp only [hn, decide_eq_true c1, decide_eq_true c2, decide_eq_true hi, cond_true, Int.toNat_natCast, w64n i (by omega), w64 (show -9223372036854775808 ≤ y + 1 by omega) (by omega)]
def mkVw (x : Vw) : Nat := 2 + 7 * x.2.2.length
def mkPa (x : Pa) : Nat := 10 + 7 * x.2.2.1.length + 5 * x.2.2.2.length
def mkLa (x : La) : Nat := 4 + sumN mkPa x.2.2
theorem markV_ok (y : Int) (l : List Vw) (h0 : 0 ≤ y) (h1 : y + (sumN mkVw l : Int) ≤ 100000000) : Ok (fun k => laws_markViewS_h0 k y l) (fun r => @Eq Int r.1 (y + (sumN mkVw l : Int))) := by
  have hl : l.length ≤ 100000000 := by have := len_sum (f := mkVw) (fun x => by unfold mkVw; omega) l; omega
  refine Ok.step (fun k => laws_markViewS_h0_eq k y l) ?_
  refine OkL.ok (L := fun k j => laws_markViewS_h0_2 k j y 0 l) ?_
  refine mark_loop (fun k j y i xs => laws_markViewS_h0_2 k j y (i : Int) xs) mkVw (dflt t_impl_View) l.length (fun k j y xs hn => ?_) (fun i y xs Q hi hn h0 h1 hc => ?_) y l rfl h0 h1
  · rw [laws_markViewS_h0_2_eq, decide_eq_false (by omega), cond_false]
  · have c1 : (i : Int) < (l.length : Int) := by omega
    have c2 : (0 : Int) ≤ (i : Int) := by omega
    have hi' : i < xs.length := by omega
    have hg := fun f => modify_getD xs i f (dflt t_impl_View) hi'
    have hm : (mkVw (xs.getD i (dflt t_impl_View)) : Int) = 2 + 7 * ((xs.getD i (dflt t_impl_View)).2.2.length : Int) := by unfold mkVw; omega
    rw [hm] at h1 hc
    obtain ⟨f1, f2, _⟩ := tens (y := y) h0 (by omega)
    refine OkL.step (fun k j => laws_markViewS_h0_2_eq k j y (i : Int) xs) ?_
    simp only [List.length_modify, hn, decide_eq_true c1, decide_eq_true c2, decide_eq_true hi, cond_true, Int.toNat_natCast, f1, f2, w64n i (by omega), List.modify_modify_eq, hg, Function.comp_apply]
    refine OkL.bind (markE_ok (y + 2) _ (by omega) (by omega)) fun b hb => ?_
    have hb' : @Eq Int b.1 (y + (2 + 7 * ((xs.getD i (dflt t_impl_View)).2.2.length : Int))) := by rw [hb]; omega
    rw [hb']
    exact hc _ (by simp [hn]) (modify_drop _ _ _)
theorem markP_ok (y : Int) (l : List Pa) (h0 : 0 ≤ y) (h1 : y + (sumN mkPa l : Int) ≤ 100000000) : Ok (fun k => laws_markPastS_h0 k y l) (fun r => @Eq Int r.1 (y + (sumN mkPa l : Int))) := by
  have hl : l.length ≤ 100000000 := by have := len_sum (f := mkPa) (fun x => by unfold mkPa; omega) l; omega
  refine Ok.step (fun k => laws_markPastS_h0_eq k y l) ?_
  refine OkL.ok (L := fun k j => laws_markPastS_h0_2 k j y 0 l) ?_
  refine mark_loop (fun k j y i xs => laws_markPastS_h0_2 k j y (i : Int) xs) mkPa (dflt t_impl_Past) l.length (fun k j y xs hn => ?_) (fun i y xs Q hi hn h0 h1 hc => ?_) y l rfl h0 h1
  · rw [laws_markPastS_h0_2_eq, decide_eq_false (by omega), cond_false]
  · have c1 : (i : Int) < (l.length : Int) := by omega
    have c2 : (0 : Int) ≤ (i : Int) := by omega
    have hi' : i < xs.length := by omega
    have hg := fun f => modify_getD xs i f (dflt t_impl_Past) hi'
    have hm : (mkPa (xs.getD i (dflt t_impl_Past)) : Int) = 10 + 7 * ((xs.getD i (dflt t_impl_Past)).2.2.1.length : Int) + 5 * ((xs.getD i (dflt t_impl_Past)).2.2.2.length : Int) := by unfold mkPa; omega
    rw [hm] at h1 hc
    obtain ⟨f1, f2, f3, f4, f5, f6, f7, f8, f9, f10⟩ := tens (y := y) h0 (by omega)
    refine OkL.step (fun k j => laws_markPastS_h0_2_eq k j y (i : Int) xs) ?_
    simp only [List.length_modify, hn, decide_eq_true c1, decide_eq_true c2, decide_eq_true hi, cond_true, Int.toNat_natCast, f1, f2, f3, f4, f5, f6, f7, f8, f9, f10, w64n i (by omega), List.modify_modify_eq, hg, Function.comp_apply]
    refine OkL.bind (markE_ok (y + 10) _ (by omega) (by omega)) fun b hb => ?_
    refine OkL.bind (markO_ok b.1 _ (by omega) (by omega)) fun c hc2 => ?_
    have hb' : @Eq Int c.1 (y + (10 + 7 * ((xs.getD i (dflt t_impl_Past)).2.2.1.length : Int) + 5 * ((xs.getD i (dflt t_impl_Past)).2.2.2.length : Int))) := by rw [hc2, hb]; omega
    rw [hb']
    exact hc _ (by simp [hn]) (modify_drop _ _ _)
theorem markL_ok (y : Int) (l : List La) (h0 : 0 ≤ y) (h1 : y + (sumN mkLa l : Int) ≤ 100000000) : Ok (fun k => laws_markLaneS_h0 k y l) (fun r => @Eq Int r.1 (y + (sumN mkLa l : Int))) := by
  have hl : l.length ≤ 100000000 := by have := len_sum (f := mkLa) (fun x => by unfold mkLa; omega) l; omega
  refine Ok.step (fun k => laws_markLaneS_h0_eq k y l) ?_
  refine OkL.ok (L := fun k j => laws_markLaneS_h0_2 k j y 0 l) ?_
  refine mark_loop (fun k j y i xs => laws_markLaneS_h0_2 k j y (i : Int) xs) mkLa (dflt t_impl_Lane) l.length (fun k j y xs hn => ?_) (fun i y xs Q hi hn h0 h1 hc => ?_) y l rfl h0 h1
  · rw [laws_markLaneS_h0_2_eq, decide_eq_false (by omega), cond_false]
  · have c1 : (i : Int) < (l.length : Int) := by omega
    have c2 : (0 : Int) ≤ (i : Int) := by omega
    have hi' : i < xs.length := by omega
    have hg := fun f => modify_getD xs i f (dflt t_impl_Lane) hi'
    have hm : (mkLa (xs.getD i (dflt t_impl_Lane)) : Int) = 4 + (sumN mkPa (xs.getD i (dflt t_impl_Lane)).2.2 : Int) := by unfold mkLa; omega
    rw [hm] at h1 hc
    obtain ⟨f1, f2, f3, f4, _⟩ := tens (y := y) h0 (by omega)
    refine OkL.step (fun k j => laws_markLaneS_h0_2_eq k j y (i : Int) xs) ?_
    simp only [List.length_modify, hn, decide_eq_true c1, decide_eq_true c2, decide_eq_true hi, cond_true, Int.toNat_natCast, f1, f2, f3, f4, w64n i (by omega), List.modify_modify_eq, hg, Function.comp_apply]
    refine OkL.bind (markP_ok (y + 4) _ (by omega) (by omega)) fun b hb => ?_
    have hb' : @Eq Int b.1 (y + (4 + (sumN mkPa (xs.getD i (dflt t_impl_Lane)).2.2 : Int))) := by rw [hb]; omega
    rw [hb']
    exact hc _ (by simp [hn]) (modify_drop _ _ _)
theorem mk_bound (n : Nd) : sumN mkLa n.2.2.2.2.1 + (7 * n.2.2.2.2.2.1.length + (5 * n.2.2.2.2.2.2.1.length + (sumN mkVw n.2.2.2.2.2.2.2.2.2.1 + n.2.2.2.2.2.2.2.2.2.2.1.length))) ≤ 10 * wNd n := by
  have hp : ∀ x : Pa, mkPa x ≤ 10 + 7 * wPa x := fun x => by unfold mkPa wPa; omega
  have hl : ∀ x : La, mkLa x ≤ 4 + 10 * wLa x := fun x => by
    unfold mkLa wLa wPs
    have := sumN_add hp x.2.2
    omega
  have hv : ∀ x : Vw, mkVw x ≤ 2 + 7 * wVw x := fun x => by unfold mkVw wVw; omega
  have h1 := sumN_add hl n.2.2.2.2.1
  have h2 := sumN_add hv n.2.2.2.2.2.2.2.2.2.1
  unfold wNd wLs wVs
  omega
theorem markNode_ok (y : Int) (n : Nd) (h0 : 0 ≤ y) (hw : y + 10 * (wNd n : Int) ≤ 100000000) : Ok (fun k => laws_markNode_h0 k n.1 n.2.1 n.2.2.1 n.2.2.2.1 n.2.2.2.2.2.2.2.1 n.2.2.2.2.2.2.2.2.1 n.2.2.2.2.2.2.2.2.2.2.2.1 n.2.2.2.2.2.2.2.2.2.2.2.2 y n.2.2.2.2.1 n.2.2.2.2.2.1 n.2.2.2.2.2.2.1 n.2.2.2.2.2.2.2.2.2.1 n.2.2.2.2.2.2.2.2.2.2.1) (fun r => (0 : Int) ≤ r.1) := by
  have hb := mk_bound n
  refine Ok.step (fun k => laws_markNode_h0_eq k n.1 n.2.1 n.2.2.1 n.2.2.2.1 n.2.2.2.2.2.2.2.1 n.2.2.2.2.2.2.2.2.1 n.2.2.2.2.2.2.2.2.2.2.2.1 n.2.2.2.2.2.2.2.2.2.2.2.2 y n.2.2.2.2.1 n.2.2.2.2.2.1 n.2.2.2.2.2.2.1 n.2.2.2.2.2.2.2.2.2.1 n.2.2.2.2.2.2.2.2.2.2.1) ?_
  refine Ok.bind (markL_ok y _ (by omega) (by omega)) fun b1 h1 => ?_
  refine Ok.bind (markE_ok b1.1 _ (by omega) (by omega)) fun b2 h2 => ?_
  refine Ok.bind (markO_ok b2.1 _ (by omega) (by omega)) fun b3 h3 => ?_
  refine Ok.bind (markV_ok b3.1 _ (by omega) (by omega)) fun b4 h4 => ?_
  refine Ok.bind (markI_ok b4.1 _ (by omega) (by omega)) fun b5 h5 => ?_
  exact Ok.some (show (0 : Int) ≤ b5.1 by omega)
/-- What the laws count in a node stays above nothing. -/
theorem mark_ndY {α : Type} {n : Nd} {r : Int} {f : Nat → Option α} {v : α} (y : Int) (hy : 0 ≤ y) (hw : y + 10 * (wNd n : Int) ≤ 100000000) (z : α) (hf : Ev f v) :
    Ev (fun k => (laws_markNode_h0 k n.1 n.2.1 n.2.2.1 n.2.2.2.1 n.2.2.2.2.2.2.2.1 n.2.2.2.2.2.2.2.2.1 n.2.2.2.2.2.2.2.2.2.2.2.1 n.2.2.2.2.2.2.2.2.2.2.2.2 y n.2.2.2.2.1 n.2.2.2.2.2.1 n.2.2.2.2.2.2.1 n.2.2.2.2.2.2.2.2.2.1 n.2.2.2.2.2.2.2.2.2.2.1).bind fun x => cond (decide (x.1 < 0)) (some z) (f k)) v := by
  obtain ⟨b, hb, hp⟩ := markNode_ok y n hy hw
  refine Ev.bind hb ?_
  have hn : ¬ (@LT.lt Int _ b.1 0) := by omega
  refine Ev.cond (fun h => absurd (of_decide_eq_true h) hn) fun _ => hf
theorem mark_nd {α : Type} {n : Nd} {r : Int} {f : Nat → Option α} {y : α} (hl : LongNd n) (hr : Ev (fun k => laws_szNode k n 1048576) r) (h0 : 0 ≤ r) (z : α) (hf : Ev f y) :
    Ev (fun k => (laws_markNode_h0 k n.1 n.2.1 n.2.2.1 n.2.2.2.1 n.2.2.2.2.2.2.2.1 n.2.2.2.2.2.2.2.2.1 n.2.2.2.2.2.2.2.2.2.2.2.1 n.2.2.2.2.2.2.2.2.2.2.2.2 1 n.2.2.2.2.1 n.2.2.2.2.2.1 n.2.2.2.2.2.2.1 n.2.2.2.2.2.2.2.2.2.1 n.2.2.2.2.2.2.2.2.2.2.1).bind fun x => cond (decide (x.1 < 0)) (some z) (f k)) y := by
  have hw := (szNode_W n 1048576 (by decide) (by decide) hl).of hr h0
  exact mark_ndY (r := r) 1 (by decide) (by omega) z hf
end Go.Proofs.YtkggdegpdmnjoaaGreat.SFnExactNodeKeep
