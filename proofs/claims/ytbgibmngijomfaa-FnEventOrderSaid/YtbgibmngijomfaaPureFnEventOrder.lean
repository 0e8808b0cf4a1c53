/- Proved: of two events that are drawn, and are not the same, just one comes first, by the program as by the reference. No condition of ours. -/
import Derived.Test.YtbgibmngijomfaaDrawPlFnEventOrder
import Derived.Test.YtbgibmngijomfaaOrdPlFnEventOrder
set_option linter.unusedVariables false
namespace Go.Proofs.Ytbgibmngijomfaa.Pure
open Go Go.Sx Go.Pl Go.Proofs.Ytbgibmngijomfaa.SFnEventOrder
theorem u8 {x : Int} (h : Go.Sx.Good t_uint8 x) : 0 ≤ x ∧ x ≤ 255 := by
  have h : (Lit.int .u8 x).wf = true := h
  simp [Lit.wf, IntKind.min, IntKind.max, IntKind.signed, IntKind.bits] at h
  omega
theorem law (a b : List Int) (ha : ∀ x ∈ a, 0 ≤ x ∧ x ≤ 255) (hb : ∀ x ∈ b, 0 ≤ x ∧ x ≤ 255) : Ok (fun k => laws_FnEventOrder k a b) (fun r => r = true) := by
  refine Ok.step (fun k => laws_FnEventOrder_eq k a b) ?_
  refine Ok.cond (fun _ => Ok.some rfl) fun _ => Ok.cond (fun _ => Ok.some rfl) fun _ => ?_
  refine Ok.bind (drawEventLessOk a ha) fun x0 _ => Ok.bind (drawEventLessOk b hb) fun x1 _ => ?_
  obtain ⟨p, q⟩ := x0
  obtain ⟨c, _⟩ := x1
  have e : ∀ x y : Ev7, Ok (fun k => impl_EventLess k x y) (fun r => r = lessE x y) := fun x y => ⟨_, implEventLess x y, rfl⟩
  have s : ∀ x y : Ev7, Ok (fun k => spec_EventLess k x y) (fun r => r = lessE x y) := fun x y => ⟨_, Ev.of 1 fun m => specEventLess m x y, rfl⟩
  refine Ok.bind (e p q) fun x2 h2 => Ok.bind (e q p) fun x3 h3 => Ok.bind (s p q) fun x4 h4 => ?_
  have h2 : x2 = lessE p q := h2
  have h3 : x3 = lessE q p := h3
  subst h2 h3 h4
  refine Ok.cond (fun h => ?_) fun _ => ?_
  · cases hh : lessE p q <;> rw [hh] at h <;> cases h
  refine Ok.bind (s q p) fun x5 h5 => ?_
  subst h5
  refine Ok.cond (fun h => ?_) fun _ => ?_
  · cases hh : lessE q p <;> rw [hh] at h <;> cases h
  refine Ok.bind (e p p) fun x6 h6 => ?_
  have h6 : x6 = false := h6.trans (lexIrr _)
  subst h6
  refine Ok.cond (fun h => by cases h) fun _ => ?_
  have fin : Ok (fun _ : Nat => cond (!lessE p q == lessE q p) (some true) (some (p.1 == q.1 && (p.2.1 == q.2.1 && (p.2.2.1 == q.2.2.1 && (p.2.2.2.1 == q.2.2.2.1 && (p.2.2.2.2.1 == q.2.2.2.2.1 && (p.2.2.2.2.2.1 == q.2.2.2.2.2.1 && (p.2.2.2.2.2.2 == q.2.2.2.2.2.2 && true))))))))) (fun r => r = true) := by
    refine Ok.cond (fun _ => Ok.some rfl) fun h => ?_
    cases h1 : lessE p q with
    | true =>
      rw [h1, show lessE q p = false from lexAsym _ _ h1] at h
      cases h
    | false =>
      cases h2 : lessE q p with
      | true => rw [h1, h2] at h; cases h
      | false =>
        have := lessE_tot h1 h2
        subst this
        exact Ok.some (by simp)
  refine Ok.bind (e q c) fun x7 h7 => ?_
  have h7 : x7 = lessE q c := h7
  subst h7
  refine Ok.cond (fun hqc => ?_) fun _ => fin
  refine Ok.cond (fun hpq => ?_) fun _ => fin
  refine Ok.bind (e p c) fun x8 h8 => ?_
  have h8 : x8 = true := h8.trans (lexTrans _ _ _ hpq hqc)
  subst h8
  exact Ok.cond (fun h => by cases h) fun _ => fin
theorem FnEventOrder : Goal := fun a b ha hb => by
  obtain ⟨r, hr, rfl⟩ := law a b (fun x hx => u8 (ha.2 x hx)) (fun x hx => u8 (hb.2 x hx))
  exact hr.ex
end Go.Proofs.Ytbgibmngijomfaa.Pure
