/- Proved: what is drawn to be let out is put into its order, by the program as by the reference, and nothing is lost; from the other end it is the same. No condition of ours. -/
import Derived.Test.YtbgibmngijomfaaDrawOutPlFnOutSort
import Derived.Test.YtbgibmngijomfaaSortPlFnOutSort
set_option linter.unusedVariables false
set_option linter.unusedSimpArgs false
namespace Go.Proofs.Ytbgibmngijomfaa.Pure
open Go Go.Sx Go.Pl Go.Proofs.Ytbgibmngijomfaa.SFnOutSort
theorem u8 {x : Int} (h : Go.Sx.Good t_uint8 x) : 0 ≤ x ∧ x ≤ 255 := by
  have h : (Lit.int .u8 x).wf = true := h
  simp [Lit.wf, IntKind.min, IntKind.max, IntKind.signed, IntKind.bits] at h
  omega
theorem lt_same (s : List Ou5) (hs : s.length ≤ 1000) : Ok (fun k => laws_ltOuts k s s) (fun b => b = true) := by
  refine Ok.step (fun k => laws_ltOuts_eq k s s) (Ok.cond (fun h => by simp at h) fun _ => ?_)
  have key : ∀ n i, s.length - i = n → i ≤ s.length → OkL (fun k j => laws_ltOuts_4 k j s s (i : Int)) (fun b => b = true) := by
    intro n
    induction n with
    | zero =>
      intro i hn hi
      exact OkL.step (fun k j => laws_ltOuts_4_eq k j s s (i : Int)) (OkL.cond (fun h => absurd (of_decide_eq_true h) (by omega)) fun _ => OkL.some rfl)
    | succ n ih =>
      intro i hn hi
      have c1 : (i : Int) < (s.length : Int) := by omega
      have c2 : (0 : Int) ≤ (i : Int) := by omega
      refine OkL.step (fun k j => laws_ltOuts_4_eq k j s s (i : Int)) ?_
      simp only [decide_eq_true c1, decide_eq_true c2, cond_true, BEq.rfl, Bool.and_true, Bool.not_true, cond_false, w64n i (by omega)]
      exact ih (i + 1) (by omega) (by omega)
  exact (key _ 0 rfl (by omega)).ok
theorem tail (s back : List Ou5) (hs : s.length ≤ 1000) (hb : back.length ≤ 1000) (hpw : s.Pairwise (le lessO)) (hp : back.Perm s) : ∀ n i, s.length - i = n → 1 ≤ i → i ≤ 2000 → OkL (fun k j => laws_FnOutSort_14 k j (i : Int) s back) (fun b => b = true) := by
  intro n
  induction n with
  | zero =>
    intro i hn hi hi2
    refine OkL.step (fun k j => laws_FnOutSort_14_eq k j (i : Int) s back) (OkL.cond (fun h => absurd (of_decide_eq_true h) (by omega)) fun _ => OkL.of ?_)
    obtain ⟨t, _, h2, h3, h4⟩ := outSorts back (by omega)
    have : t = s := sorted_eq TotO h4 hpw (h3.trans hp)
    subst this
    exact Ok.bind (P := fun b => b = t) ⟨t, h2, rfl⟩ fun b hb => by
      subst hb
      exact Ok.bind (lt_same b hs) fun c hc => Ok.some hc
  | succ n ih =>
    intro i hn hi hi2
    have c1 : (i : Int) < (s.length : Int) := by omega
    have c2 : (0 : Int) ≤ (i : Int) := by omega
    have c3 : i < s.length := by omega
    have e1 : IntKind.i64.wrap ((i : Int) - 1) = ((i - 1 : Nat) : Int) := by rw [w64 (by omega) (by omega)]; omega
    have c4 : (0 : Int) ≤ ((i - 1 : Nat) : Int) := by omega
    have c5 : ((i - 1 : Nat) : Int) < (s.length : Int) := by omega
    have c6 : i - 1 < s.length := by omega
    refine OkL.step (fun k j => laws_FnOutSort_14_eq k j (i : Int) s back) ?_
    simp only [e1, Int.toNat_natCast, decide_eq_true c1, decide_eq_true c2, decide_eq_true c3, decide_eq_true c4, decide_eq_true c5, decide_eq_true c6, cond_true, w64n i (by omega)]
    refine OkL.bind (okLessO _ _) fun x hx => ?_
    have h1 := List.pairwise_iff_getElem.1 hpw (i - 1) i c6 c3 (by omega)
    rw [← gD s dO _ c6, ← gD s dO _ c3] at h1
    have hx : x = false := hx.trans h1
    subst hx
    exact ih (i + 1) (by omega) (by omega) (by omega)
theorem rev (l s : List Ou5) (hl : l.length ≤ 1000) (hs : s.length ≤ 1000) (hpw : s.Pairwise (le lessO)) (hp : l.Perm s) : ∀ m, m ≤ l.length → OkL (fun k j => laws_FnOutSort_10 k j ((m : Int) - 1) l s ((l.drop m).reverse)) (fun b => b = true) := by
  intro m
  induction m with
  | zero =>
    intro hm
    refine OkL.step (fun k j => laws_FnOutSort_10_eq k j (((0 : Nat) : Int) - 1) l s _) (OkL.cond (fun h => by simp at h) fun _ => OkL.of ?_)
    have hb : ((l.drop 0).reverse).Perm s := by simpa using (List.reverse_perm l).trans hp
    exact (tail s _ hs (by simpa using hl) hpw hb _ 1 rfl (by omega) (by omega)).ok
  | succ m ih =>
    intro hm
    have e0 : ((m + 1 : Nat) : Int) - 1 = (m : Int) := by omega
    have e1 : IntKind.i64.wrap ((m : Int) - 1) = (m : Int) - 1 := w64 (by omega) (by omega)
    have c1 : (m : Int) < (l.length : Int) := by omega
    have c2 : (0 : Int) ≤ (m : Int) := by omega
    have c3 : m < l.length := by omega
    have c4 : (m : Int) ≥ 0 := by omega
    rw [e0]
    refine OkL.step (fun k j => laws_FnOutSort_10_eq k j (m : Int) l s _) ?_
    simp only [e1, Int.toNat_natCast, decide_eq_true c1, decide_eq_true c2, decide_eq_true c3, decide_eq_true c4, cond_true]
    refine OkL.chk (by simp only [List.length_singleton, List.length_reverse, List.length_drop]; omega) ?_
    have := ih (by omega)
    rw [getD_drop l dO m c3, List.reverse_cons] at this
    exact this
theorem law (a : List Int) (ha : ∀ x ∈ a, 0 ≤ x ∧ x ≤ 255) : Ok (fun k => laws_FnOutSort k a) (fun r => r = true) := by
  refine Ok.step (fun k => laws_FnOutSort_eq k a) ?_
  refine Ok.cond (fun _ => Ok.some rfl) fun _ => ?_
  refine Ok.bind (drawOutSortOk a ha) fun l hl => ?_
  obtain ⟨s, h1, h2, h3, h4⟩ := outSorts l (by omega)
  have hs : s.length ≤ 1000 := by rw [h3.length_eq]; exact hl
  refine Ok.bind (P := fun b => b = s) ⟨s, h1, rfl⟩ fun x hx => Ok.bind (P := fun b => b = s) ⟨s, h2, rfl⟩ fun y hy => ?_
  subst hx hy
  refine Ok.bind (lt_same y hs) fun z hz => ?_
  subst hz
  refine Ok.cond (fun h => by cases h) fun _ => Ok.cond (fun h => ?_) fun _ => ?_
  · rw [h3.length_eq] at h; simp at h
  have := (rev l y hl hs h4 h3.symm l.length (Nat.le_refl _)).ok
  rw [List.drop_length] at this
  have e : IntKind.i64.wrap ((l.length : Int) - 1) = (l.length : Int) - 1 := w64 (by omega) (by omega)
  rw [e]
  exact this
theorem FnOutSort : Goal := fun a ha => by
  obtain ⟨r, hr, rfl⟩ := law a fun x hx => u8 (ha.2 x hx)
  exact hr.ex
end Go.Proofs.Ytbgibmngijomfaa.Pure
