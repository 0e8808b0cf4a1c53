/- Proved: events that are drawn are put into their order, each once, by the program as by the reference; from the other end, and of what is in order, it is the same. No condition of ours. -/
import Derived.Test.YtbgibmngijomfaaDrawEventPlFnEventSort
set_option linter.unusedVariables false
set_option linter.unusedSimpArgs false
namespace Go.Proofs.Ytbgibmngijomfaa.Pure
open Go Go.Sx Go.Pl Go.Proofs.Ytbgibmngijomfaa.SFnEventSort
theorem u8 {x : Int} (h : Go.Sx.Good t_uint8 x) : 0 ≤ x ∧ x ≤ 255 := by
  have h : (Lit.int .u8 x).wf = true := h
  simp [Lit.wf, IntKind.min, IntKind.max, IntKind.signed, IntKind.bits] at h
  omega
theorem lt_same (s : List Ev7) (hs : s.length ≤ 1000) : Ok (fun k => laws_ltEvents k s s) (fun b => b = true) := by
  refine Ok.step (fun k => laws_ltEvents_eq k s s) (Ok.cond (fun h => by simp at h) fun _ => ?_)
  have key : ∀ n i, s.length - i = n → i ≤ s.length → OkL (fun k j => laws_ltEvents_4 k j s s (i : Int)) (fun b => b = true) := by
    intro n
    induction n with
    | zero =>
      intro i hn hi
      exact OkL.step (fun k j => laws_ltEvents_4_eq k j s s (i : Int)) (OkL.cond (fun h => absurd (of_decide_eq_true h) (by omega)) fun _ => OkL.some rfl)
    | succ n ih =>
      intro i hn hi
      have c1 : (i : Int) < (s.length : Int) := by omega
      have c2 : (0 : Int) ≤ (i : Int) := by omega
      refine OkL.step (fun k j => laws_ltEvents_4_eq k j s s (i : Int)) ?_
      simp only [decide_eq_true c1, decide_eq_true c2, cond_true, BEq.rfl, Bool.and_true, Bool.not_true, cond_false, w64n i (by omega)]
      exact ih (i + 1) (by omega) (by omega)
  exact (key _ 0 rfl (by omega)).ok
theorem implIs (l s : List Ev7) (hl : l.length ≤ 1000) (hw : ∀ x ∈ l, WfE x) (hs : Srt s) (hm : ∀ y, y ∈ l ↔ y ∈ s) : Ok (fun k => impl_EventSort k l) (fun b => b = s) := by
  obtain ⟨t, _, h2, h3, h4, h5⟩ := eventSorts l (by omega) hw
  exact ⟨t, h2, strict_eq h3 hs fun y => (h4 y).trans (hm y)⟩
theorem tail (s back : List Ev7) (hs : s.length ≤ 1000) (hb : back.length ≤ 1000) (hpw : Srt s) (hw : ∀ x ∈ s, WfE x) (hp : ∀ y, y ∈ back ↔ y ∈ s) : ∀ n i, s.length - i = n → 1 ≤ i → i ≤ 2000 → OkL (fun k j => laws_FnEventSort_21 k j (i : Int) s back) (fun b => b = true) := by
  intro n
  induction n with
  | zero =>
    intro i hn hi hi2
    refine OkL.step (fun k j => laws_FnEventSort_21_eq k j (i : Int) s back) (OkL.cond (fun h => absurd (of_decide_eq_true h) (by omega)) fun _ => OkL.of ?_)
    refine Ok.bind (implIs back s hb (fun x hx => hw x ((hp x).1 hx)) hpw hp) fun b e => ?_
    subst e
    refine Ok.bind (lt_same b hs) fun c e => ?_
    subst e
    refine Ok.cond (fun _ => ?_) fun h => by cases h
    refine Ok.bind (implIs b b hs hw hpw fun _ => Iff.rfl) fun d e => ?_
    subst e
    exact Ok.bind (lt_same d hs) fun c e => Ok.some e
  | succ n ih =>
    intro i hn hi hi2
    have c1 : (i : Int) < (s.length : Int) := by omega
    have c2 : (0 : Int) ≤ (i : Int) := by omega
    have c3 : i < s.length := by omega
    have e1 : IntKind.i64.wrap ((i : Int) - 1) = ((i - 1 : Nat) : Int) := by rw [w64 (by omega) (by omega)]; omega
    have c4 : (0 : Int) ≤ ((i - 1 : Nat) : Int) := by omega
    have c5 : ((i - 1 : Nat) : Int) < (s.length : Int) := by omega
    have c6 : i - 1 < s.length := by omega
    refine OkL.step (fun k j => laws_FnEventSort_21_eq k j (i : Int) s back) ?_
    simp only [e1, Int.toNat_natCast, decide_eq_true c1, decide_eq_true c2, decide_eq_true c3, decide_eq_true c4, decide_eq_true c5, decide_eq_true c6, cond_true, w64n i (by omega)]
    refine OkL.bind (P := fun b => b = lessE (s.getD (i - 1) dE) (s.getD i dE)) ⟨_, implEventLess _ _, rfl⟩ fun x hx => ?_
    have h1 := List.pairwise_iff_getElem.1 hpw (i - 1) i c6 c3 (by omega)
    rw [← gD s dE _ c6, ← gD s dE _ c3] at h1
    have hx : x = true := hx.trans h1
    subst hx
    exact ih (i + 1) (by omega) (by omega) (by omega)
theorem found (l s back : List Ev7) (i : Nat) (hi : i < l.length) (hs : s.length ≤ 1000) {Q : Bool → Prop} (hnext : OkL (fun k j0 => laws_FnEventSort_10 k j0 (IntKind.i64.wrap ((i : Int) - 1)) l s back) Q) :
    ∀ (n jd : Nat) (f : Bool), s.length - jd = n → jd ≤ s.length → f = true ∨ l.getD i dE ∈ s.drop jd → Ok3 (fun k j0 j => laws_FnEventSort_15 k j0 j (i : Int) f (jd : Int) l s back) Q := by
  intro n
  induction n with
  | zero =>
    intro jd f hn hj hf
    refine Ok3.step (fun k j0 j => laws_FnEventSort_15_eq k j0 j (i : Int) f (jd : Int) l s back) (Ok3.cond (fun h => absurd (of_decide_eq_true h) (by omega)) fun _ => Ok3.cond (fun h => ?_) fun _ => Ok3.out hnext)
    rw [List.drop_of_length_le (by omega)] at hf
    rcases hf with rfl | hf
    · cases h
    · cases hf
  | succ n ih =>
    intro jd f hn hj hf
    have c1 : (jd : Int) < (s.length : Int) := by omega
    have c2 : (0 : Int) ≤ (jd : Int) := by omega
    have c3 : jd < s.length := by omega
    have c4 : (i : Int) < (l.length : Int) := by omega
    have c5 : (0 : Int) ≤ (i : Int) := by omega
    refine Ok3.step (fun k j0 j => laws_FnEventSort_15_eq k j0 j (i : Int) f (jd : Int) l s back) ?_
    simp only [Int.toNat_natCast, decide_eq_true c1, decide_eq_true c2, decide_eq_true c3, decide_eq_true c4, decide_eq_true c5, decide_eq_true hi, cond_true, w64n jd (by omega)]
    refine Ok3.cond (fun _ => ih (jd + 1) true (by omega) (by omega) (.inl rfl)) fun h => ?_
    refine ih (jd + 1) _ (by omega) (by omega) ?_
    rcases hf with hf | hf
    · rw [hf] at h; cases h
    by_cases he : s.getD jd dE = l.getD i dE
    · left
      have : ∀ p q : Ev7, p = q → (p.1 == q.1 && (p.2.1 == q.2.1 && (p.2.2.1 == q.2.2.1 && (p.2.2.2.1 == q.2.2.2.1 && (p.2.2.2.2.1 == q.2.2.2.2.1 && (p.2.2.2.2.2.1 == q.2.2.2.2.2.1 && (p.2.2.2.2.2.2 == q.2.2.2.2.2.2 && true))))))) = true := by
        intro p q e; subst e; simp
      exact this _ _ he
    · right
      rw [getD_drop s dE jd c3] at hf
      rcases List.mem_cons.1 hf with hf | hf
      · exact absurd hf.symm he
      · exact hf
theorem rev (l s : List Ev7) (hl : l.length ≤ 1000) (hs : s.length ≤ 1000) (hpw : Srt s) (hw : ∀ x ∈ s, WfE x) (hp : ∀ y, y ∈ l ↔ y ∈ s) : ∀ m, m ≤ l.length → OkL (fun k j => laws_FnEventSort_10 k j ((m : Int) - 1) l s ((l.drop m).reverse)) (fun b => b = true) := by
  intro m
  induction m with
  | zero =>
    intro hm
    refine OkL.step (fun k j => laws_FnEventSort_10_eq k j (((0 : Nat) : Int) - 1) l s _) (OkL.cond (fun h => by simp at h) fun _ => OkL.of ?_)
    exact (tail s _ hs (by simpa using hl) hpw hw (fun y => by rw [List.mem_reverse, List.drop_zero]; exact hp y) _ 1 rfl (by omega) (by omega)).ok
  | succ m ih =>
    intro hm
    have e0 : ((m + 1 : Nat) : Int) - 1 = (m : Int) := by omega
    have e1 : IntKind.i64.wrap ((m : Int) - 1) = (m : Int) - 1 := w64 (by omega) (by omega)
    have c1 : (m : Int) < (l.length : Int) := by omega
    have c2 : (0 : Int) ≤ (m : Int) := by omega
    have c3 : m < l.length := by omega
    have c4 : (m : Int) ≥ 0 := by omega
    rw [e0]
    refine OkL.step (fun k j => laws_FnEventSort_10_eq k j (m : Int) l s _) ?_
    simp only [Int.toNat_natCast, decide_eq_true c1, decide_eq_true c2, decide_eq_true c3, decide_eq_true c4, cond_true]
    refine OkL.chk (by simp only [List.length_singleton, List.length_reverse, List.length_drop]; omega) ?_
    have hi := ih (by omega)
    rw [getD_drop l dE m c3, List.reverse_cons, ← e1] at hi
    have hmem : l.getD m dE ∈ s.drop 0 := by rw [List.drop_zero, ← hp, gD l dE m c3]; exact List.getElem_mem c3
    have := Ok3.inn (L := fun k j0 j => laws_FnEventSort_15 k j0 j (m : Int) false ((0 : Nat) : Int) l s ((l.drop (m + 1)).reverse ++ [l.getD m dE])) (found l s _ m c3 hs hi _ 0 false rfl (by omega) (.inr hmem))
    exact this
theorem law (a : List Int) (ha : ∀ x ∈ a, 0 ≤ x ∧ x ≤ 255) : Ok (fun k => laws_FnEventSort k a) (fun r => r = true) := by
  refine Ok.step (fun k => laws_FnEventSort_eq k a) ?_
  refine Ok.cond (fun _ => Ok.some rfl) fun _ => ?_
  refine Ok.bind (drawEventSortSm a ha) fun l hl2 => ?_
  obtain ⟨hl, hsm⟩ := hl2
  have hw : ∀ x ∈ l, WfE x := fun x hx => small_wf (hsm x hx)
  obtain ⟨s, h1, h2, h3, h4, h5⟩ := eventSorts l (by omega) hw
  have hs : s.length ≤ 1000 := by omega
  refine Ok.bind (P := fun b => b = s) ⟨s, h1, rfl⟩ fun x hx => Ok.bind (P := fun b => b = s) ⟨s, h2, rfl⟩ fun y hy => ?_
  subst hx hy
  refine Ok.bind (lt_same y hs) fun z hz => ?_
  subst hz
  refine Ok.cond (fun h => by cases h) fun _ => ?_
  have := (rev l y hl hs h3 (fun x hx => hw x ((h4 x).1 hx)) (fun z => (h4 z).symm) l.length (Nat.le_refl _)).ok
  rw [List.drop_length] at this
  have e : IntKind.i64.wrap ((l.length : Int) - 1) = (l.length : Int) - 1 := w64 (by omega) (by omega)
  rw [e]
  exact this
theorem FnEventSort : Goal := fun a ha => by
  obtain ⟨r, hr, rfl⟩ := law a fun x hx => u8 (ha.2 x hx)
  exact hr.ex
end Go.Proofs.Ytbgibmngijomfaa.Pure
