/- What the reference draws to be let out. -/
import Derived.Test.YtbgibmngijomfaaDrawPlFnOutSort
import Derived.Test.YtbgibmngijomfaaChecksPlFnOutSort
set_option linter.unusedVariables false
namespace Go.Proofs.Ytbgibmngijomfaa.SFnOutSort
open Go Go.Sx Go.Pl
theorem l72OutOk {r : List Int × Int} {m : Nat} (hr : RdOk r m) (hm : m < 100000000) :
    Ok (fun k => spec_l72Out_h0 k r) (fun b => RdOk (b.2.1.1, b.2.1.2.1) (m + 5)) := by
  refine Ok.step (fun k => spec_l72Out_h0_eq k r) ?_
  refine Ok.bind (pickOk hr (by omega) (by omega)) fun x0 h0 => ?_
  refine Ok.bind (pickOk h0.2.2 (by omega) (by omega)) fun x1 h1 => ?_
  refine Ok.bind (pickOk h1.2.2 (by omega) (by omega)) fun x2 h2 => ?_
  refine Ok.bind (pickOk h2.2.2 (by omega) (by omega)) fun x3 h3 => ?_
  refine Ok.bind (pickOk h3.2.2 (by omega) (by omega)) fun x4 h4 => ?_
  exact Ok.some h4.2.2

theorem drawOutLoop (n : Nat) : ∀ (r : List Int × Int) (m : Nat) (out : List Ou5), RdOk r m → m + 5 * n < 100000 → out.length + n ≤ 1000 →
    OkL (fun k j => spec_DrawOutSort_4 k j (n : Int) r out) (fun b => b.length ≤ 1000) := by
  induction n with
  | zero =>
    intro r m out hr hm ho
    exact OkL.step (fun k j => spec_DrawOutSort_4_eq k j ((0 : Nat) : Int) r out) (OkL.cond (fun h => by simp at h) fun _ => OkL.some (by omega))
  | succ n ih =>
    intro r m out hr hm ho
    refine OkL.step (fun k j => spec_DrawOutSort_4_eq k j ((n + 1 : Nat) : Int) r out) (OkL.cond (fun _ => ?_) fun h => absurd (of_decide_eq_false h) (by omega))
    refine OkL.bind (l72OutOk hr (by omega)) fun x hx => OkL.chk (by simp only [List.length_singleton]; omega) ?_
    have e : IntKind.i64.wrap (((n + 1 : Nat) : Int) - 1) = (n : Int) := by rw [w64 (by omega) (by omega)]; omega
    rw [e]
    exact ih _ (m + 5) _ hx (by omega) (by simp <;> omega)

theorem drawOutSortOk (a : List Int) (ha : ∀ x ∈ a, 0 ≤ x ∧ x ≤ 255) : Ok (fun k => spec_DrawOutSort k a) (fun b => b.length ≤ 1000) := by
  refine Ok.step (fun k => spec_DrawOutSort_eq k a) ?_
  refine Ok.bind (openOk a ha) fun x0 h0 => ?_
  refine Ok.bind (pickOk h0 (by omega) (by omega)) fun x1 h1 => ?_
  have h2 : @LT.lt Int _ x1.1 14 := h1.2.1 (by omega)
  have h3 : @LE.le Int _ 0 x1.1 := h1.1
  obtain ⟨n, hn⟩ : ∃ n : Nat, x1.1 = (n : Int) := ⟨Int.toNat x1.1, (Int.toNat_of_nonneg h3).symm⟩
  have h4 : n < 14 := by rw [hn] at h2; omega
  rw [hn]
  exact (drawOutLoop n _ 1 [] h1.2.2 (by omega) (by simp <;> omega)).ok
end Go.Proofs.Ytbgibmngijomfaa.SFnOutSort
