/- Proved: what is less than a drawn word that is ok is ok, by the program as by the reference. No condition of ours. -/
import Derived.Test.YtjgpacfhokpfdaaWordDrawPlFnWordOk
set_option linter.unusedVariables false
set_option linter.unusedSimpArgs false
namespace Go.Proofs.Ytjgpacfhokpfdaa.Pure
open Go Go.Sx Go.Pl Go.Proofs.Ytjgpacfhokpfdaa.SFnWordOk
theorem u8 {x : Int} (h : Go.Sx.Good t_uint8 x) : 0 ≤ x ∧ x ≤ 255 := by
  have h : (Lit.int .u8 x).wf = true := h
  simp [Lit.wf, IntKind.min, IntKind.max, IntKind.signed, IntKind.bits] at h
  omega
theorem goM_take {α : Type} {ok : α → Bool} {less : α → α → Bool} : ∀ (r : List α) (x : α) (n : Nat), listM.goM ok less x r = true → listM.goM ok less x (r.take n) = true
  | [], x, n, h => by simpa using h
  | y :: r, x, 0, h => rfl
  | y :: r, x, n + 1, h => by
    simp only [listM.goM, Bool.and_eq_true, List.take_succ_cons] at h ⊢
    exact ⟨h.1, goM_take r y n h.2⟩
theorem listM_take {α : Type} {ok : α → Bool} {less : α → α → Bool} (l : List α) (n : Nat) (h : listM ok less l = true) : listM ok less (l.take n) = true := by
  cases l with
  | nil => simpa using h
  | cons x r =>
    cases n with
    | zero => rfl
    | succ n =>
      simp only [listM, Bool.and_eq_true, List.take_succ_cons] at h ⊢
      exact ⟨h.1, goM_take r x n h.2⟩
theorem law (a : List Int) (ha : ∀ x ∈ a, 0 ≤ x ∧ x ≤ 255) : Ok (fun k => laws_FnWordOk k a) (fun r => r = true) := by
  refine Ok.step (fun k => laws_FnWordOk_eq k a) (Ok.cond (fun _ => Ok.some rfl) fun _ => ?_)
  refine Ok.bind (drawWordOkOk a ha) fun x hx => ?_
  obtain ⟨s1, s2, s3, s4⟩ := hx
  have hs : SmallWo x := ⟨by omega, by omega, by omega, by omega⟩
  refine Ok.bind (P := fun b => b = wordM x) ⟨_, specWord x hs, rfl⟩ fun b hb => Ok.bind (P := fun b => b = wordM x) ⟨_, implWord x hs, rfl⟩ fun c hc => ?_
  subst hb hc
  refine Ok.cond (fun h => ?_) fun _ => Ok.cond (fun _ => Ok.some (by simp)) fun h => ?_
  · cases hh : wordM x <;> rw [hh] at h <;> cases h
  have h := nf h
  have e1 : IntKind.i64.wrap ((x.2.2.2.2.2.2.2.2.2.1.length : Int).tdiv 2) = ((x.2.2.2.2.2.2.2.2.2.1.length / 2 : Nat) : Int) := by
    have : (x.2.2.2.2.2.2.2.2.2.1.length : Int).tdiv 2 = ((x.2.2.2.2.2.2.2.2.2.1.length / 2 : Nat) : Int) := by rw [Int.tdiv_eq_ediv_of_nonneg (by omega)]; omega
    rw [this, w64 (by omega) (by omega)]
  have hw := h
  simp only [wordM, Bool.and_eq_true] at hw
  obtain ⟨h1, h2, h3, h4, h5, h6, h7, h8, h9, h10, h11⟩ := hw
  simp only [eventsM, Bool.and_eq_true, decide_eq_true_eq] at h10
  refine Ok.chk (by rw [e1]; omega) (Ok.chk (by rw [e1]; omega) ?_)
  have hy : ∀ l : List Ev7, l.length ≤ 1000 → listM evM lessE l = true → (l.length : Int) ≤ 100 → Ok (fun k => impl_WordOk k ((x.1, (x.2.1, (x.2.2.1, (x.2.2.2.1, (x.2.2.2.2.1, (x.2.2.2.2.2.1, (x.2.2.2.2.2.2.1, (x.2.2.2.2.2.2.2.1, (x.2.2.2.2.2.2.2.2.1, (l, [])))))))))))) (fun b => b = true) := by
    intro l hl hm hn
    have hs' : SmallWo (x.1, x.2.1, x.2.2.1, x.2.2.2.1, x.2.2.2.2.1, x.2.2.2.2.2.1, x.2.2.2.2.2.2.1, x.2.2.2.2.2.2.2.1, x.2.2.2.2.2.2.2.2.1, l, []) := ⟨hs.1, hs.2.1, by show l.length ≤ _; omega, by simp⟩
    refine ⟨_, implWord _ hs', ?_⟩
    simp only [wordM, eventsM, outsM, h1, h2, h3, h4, h5, h6, h7, h8, h9, hm, Bool.true_and]
    simp [hn, listM]
  have key := hy (List.drop (Int.toNat 0) (List.take (IntKind.i64.wrap ((x.2.2.2.2.2.2.2.2.2.1.length : Int).tdiv 2)).toNat x.2.2.2.2.2.2.2.2.2.1)) (by simp only [List.length_drop, List.length_take]; omega) (listM_take _ _ h10.2) (by
    have e9 : Int.toNat 0 = 0 := rfl
    rw [e9, List.length_drop, List.length_take]; omega)
  refine Ok.bind key fun c hc => ?_
  subst hc
  have hs2 : SmallWo (x.1, x.2.1, x.2.2.1, x.2.2.2.1, x.2.2.2.2.1, -1, x.2.2.2.2.2.2) := hs
  refine Ok.bind (P := fun b => b = false) ⟨_, implWord _ hs2, ?_⟩ fun d hd => by subst hd; exact Ok.some rfl
  have e8 : inB (-1) 0 9999 = false := by decide
  simp only [wordM, e8, Bool.false_and, Bool.and_false]
theorem FnWordOk : Goal := fun a ha => by
  obtain ⟨r, hr, rfl⟩ := law a fun x hx => u8 (ha.2 x hx)
  exact hr.ex
end Go.Proofs.Ytjgpacfhokpfdaa.Pure
