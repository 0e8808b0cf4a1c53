/- What is let out, put into its order: by the reference one by one, by the program over a heap. Both are the same. -/
import Derived.Test.YtjgpacfhokpfdaaOkPlFnWordBack
import Derived.Test.YtjgpacfhokpfdaaOrdPlFnWordBack
import Derived.Test.YtjgpacfhokpfdaaHeapPlFnWordBack
set_option linter.unusedVariables false
set_option linter.unusedSimpArgs false
namespace Go.Proofs.Ytjgpacfhokpfdaa.SFnWordBack
open Go Go.Sx Go.Pl
abbrev dO : Ou5 := dflt t_impl_Out

theorem TotO : Tot lessO := ⟨fun x y h => lexAsym _ _ h, fun x y z h h' => lexTrans _ _ _ h h', fun x y h h' => lessO_tot h h'⟩

theorem okLessO (x y : Ou5) : Ok (fun k => impl_OutLess k x y) (fun b => b = lessO x y) := ⟨_, implOutLess x y, rfl⟩

theorem okSpecLessO (x y : Ou5) : Ok (fun k => spec_OutLess k x y) (fun b => b = lessO x y) := ⟨_, Ev.of 1 fun m => specOutLess m x y, rfl⟩

theorem insLoop (a : List Ou5) (hl : a.length ≤ 1048576) (i : Nat) (hi : i < a.length) (s : List Ou5) (hs : s.length = i) (hpw : s.Pairwise (le lessO)) {Q : List Ou5 → Prop}
    (hnext : ∀ k, (insM lessO (a.getD i dO) s k).Pairwise (le lessO) → OkL (fun k' j => spec_OutSort_3 k' j a ((i + 1 : Nat) : Int) (insM lessO (a.getD i dO) s k)) Q) :
    ∀ (m : Nat), m ≤ s.length → (∀ y ∈ s.drop m, le lessO (a.getD i dO) y) → Ok3 (fun k j0 j => spec_OutSort_6 k j0 j a (i : Int) (m : Int) s) Q := by
  intro m
  have c1 : (0 : Int) ≤ (i : Int) := by omega
  have c2 : (i : Int) < (a.length : Int) := by omega
  induction m with
  | zero =>
    intro hm hd
    refine Ok3.step (fun k j0 j => spec_OutSort_6_eq k j0 j a (i : Int) (0 : Nat) s) (Ok3.cond (fun h => by simp at h) fun _ => ?_)
    refine Ok3.chk (by omega) (Ok3.chk (by omega) (Ok3.chk (by simp) (Ok3.chk c1 (Ok3.chk c2 (Ok3.chk (by simp) (Ok3.chk (by omega) (Ok3.chk (by omega) (Ok3.chk (by omega) (Ok3.chk (by simp <;> omega) ?_)))))))))
    simp only [Int.toNat_natCast, w64n i (by omega), List.take_length]
    exact Ok3.out (hnext 0 (ins_sorted TotO hpw (by simp) hd))
  | succ m ih =>
    intro hm hd
    have e1 : IntKind.i64.wrap (((m + 1 : Nat) : Int) - 1) = (m : Int) := by rw [w64 (by omega) (by omega)]; omega
    have c3 : (m : Int) < (s.length : Int) := by omega
    have c4 : m < s.length := by omega
    have c5 : (0 : Int) ≤ (m : Int) := by omega
    refine Ok3.step (fun k j0 j => spec_OutSort_6_eq k j0 j a (i : Int) ((m + 1 : Nat) : Int) s) (Ok3.cond (fun _ => ?_) fun h => absurd (of_decide_eq_false h) (by omega))
    simp only [e1, Int.toNat_natCast, decide_eq_true c1, decide_eq_true c2, decide_eq_true c3, decide_eq_true c4, decide_eq_true c5, cond_true]
    refine Ok3.bind (okSpecLessO _ _) fun x hx => ?_
    subst hx
    refine Ok3.cond (fun h => ?_) fun h => ?_
    · have h : lessO (a.getD i dO) (s.getD m dO) = true := h
      refine ih (by omega) fun y hy => ?_
      rw [getD_drop s dO m c4] at hy
      rcases List.mem_cons.1 hy with rfl | hy
      · exact le_of TotO h
      · exact hd y hy
    · have h : lessO (a.getD i dO) (s.getD m dO) = false := h
      refine Ok3.chk (by omega) (Ok3.chk (by omega) (Ok3.chk (by simp <;> omega) (Ok3.chk (by simp <;> omega) (Ok3.chk (by omega) (Ok3.chk (by omega) (Ok3.chk (by omega) (Ok3.chk (by simp <;> omega) ?_)))))))
      simp only [Int.toNat_natCast, w64n i (by omega), List.take_length]
      refine Ok3.out (hnext (m + 1) (ins_sorted TotO hpw (fun y hy => ?_) hd))
      obtain ⟨n, hn, rfl⟩ := List.getElem_of_mem hy
      rw [List.length_take] at hn
      rw [List.getElem_take]
      by_cases hnm : n = m
      · subst hnm; rw [← gD s dO n c4]; exact h
      · have := List.pairwise_iff_getElem.1 hpw n m (by omega) c4 (by omega)
        rw [← gD s dO m c4] at this
        exact le_tr TotO this h

theorem specLoop (a : List Ou5) (hl : a.length ≤ 1048576) (n : Nat) : ∀ (i : Nat) (s : List Ou5), a.length - i = n → i ≤ a.length → s.length = i → s.Pairwise (le lessO) →
    OkL (fun k j => spec_OutSort_3 k j a (i : Int) s) (fun b => b.Perm (s ++ a.drop i) ∧ b.Pairwise (le lessO)) := by
  induction n with
  | zero =>
    intro i s hn hi hs hpw
    refine OkL.step (fun k j => spec_OutSort_3_eq k j a (i : Int) s) (OkL.cond (fun hc => absurd (of_decide_eq_true hc) (by omega)) fun _ => OkL.some ⟨?_, hpw⟩)
    rw [List.drop_of_length_le (by omega), List.append_nil]
  | succ n ih =>
    intro i s hn hi hs hpw
    have c1 : (i : Int) < (a.length : Int) := by omega
    refine OkL.step (fun k j => spec_OutSort_3_eq k j a (i : Int) s) (OkL.cond (fun _ => ?_) fun hc => absurd c1 (of_decide_eq_false hc))
    refine Ok3.inn (L := fun k j0 j => spec_OutSort_6 k j0 j a (i : Int) (s.length : Int) s) (insLoop a hl i (by omega) s hs hpw (fun m hm => ?_) s.length (Nat.le_refl _) (by simp))
    have hp := ins_perm lessO (a.getD i dO) s m
    refine OkL.imp (ih (i + 1) _ (by omega) (by omega) (by rw [hp.length_eq]; simp; omega) hm) fun b hb => ⟨hb.1.trans ?_, hb.2⟩
    rw [getD_drop a dO i (by omega)]
    have := List.Perm.append_right (a.drop (i + 1)) hp
    rw [List.append_assoc] at this
    exact this

theorem specOutSort (a : List Ou5) (hl : a.length ≤ 1048576) : Ok (fun k => spec_OutSort k a) (fun b => b.Perm a ∧ b.Pairwise (le lessO)) := by
  refine Ok.step (fun k => spec_OutSort_eq k a) ?_
  exact Ok.imp (specLoop a hl _ 0 [] rfl (by omega) rfl List.Pairwise.nil).ok fun b hb => ⟨by simpa using hb.1, hb.2⟩

end Go.Proofs.Ytjgpacfhokpfdaa.SFnWordBack
