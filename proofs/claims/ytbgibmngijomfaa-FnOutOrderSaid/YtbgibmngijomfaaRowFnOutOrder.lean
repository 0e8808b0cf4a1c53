/- Proved: the row FnOutOrderSaid: at every input the law returns true, and each argument reads behind the call as it did. No condition of ours. -/
import Derived.Test.YtbgibmngijomfaaRows
import Derived.Test.YtbgibmngijomfaaXOutOrderx3
import Derived.Test.YtbgibmngijomfaaGFnOutOrder
import Derived.Test.YtbgibmngijomfaaPureFnOutOrder
import Derived.Test.YtbgibmngijomfaaRdr
import Derived.WalkKit
import Derived.ProofKit
import Derived.OpenShut
import Derived.ShutString
import Derived.ChangeOld
import Derived.Below
import Derived.SizedLaws
namespace Go.Proofs.Ytbgibmngijomfaa.fnOutOrderRow
open Go.ChangeShapes Go.WideShapes Go.ChangeAt Go.RowKit Go.Proofs.YtbgibmngijomfaaW.PrintWords Go.Proofs.YtbgibmngijomfaaR Go.Proofs.Ytbgibmngijomfaa.XOutOrder
set_option linter.unusedVariables false
theorem own : ownKnob Try.prog.godebug = none := by kernel_rfl
theorem laidOut : laidOutB Try.prog = true := by kernel_rfl
theorem cells5 : Try.prog.cellsOf 5 = 1 := by kernel_rfl
set_option maxRecDepth 100000 in
set_option maxHeartbeats 4000000 in
theorem lifted (os : Os) (started : os.Started) (H : Type) (enc : TypeId × Value → H) :
    ReturnsInHanded {} Try.checked os 9 .any (Rows.fnOutOrderSpec.pre6 enc Try.prog Try.f9 Rows.fnOutOrderRow.domain false) (Rows.fnOutOrderSpec.post enc Try.prog Try.f9 false true false false) := by
  refine returnsInHanded_of_change_sized (C := Try.checked) own started (by kernel_rfl) Try.func9
    (ChangeSpec.witness6 (enc := enc) (C := Try.checked) false ⟨#[], #[.slice none 0 0], []⟩ 8 (by kernel_rfl) (by kernel_rfl) (by kernel_rfl) (by kernel_rfl)) ?_
  intro W base args ds gs before hval0 hW hcnd hsz0 _
  have hval : ∀ (j : Nat) t v, Try.f9.params[j]? = some t → args[j]? = some v → Value.okWide Try.prog W .any base t v := hval0
  have hW' := hW
  obtain ⟨p, q, hA0, hV, rfl, hfz, hnd⟩ := hW
  have hA : DataW.TrodAll enc Try.prog W 0 (fun _ => true) true Try.f9.params.toList args.toList ds p := hA0
  rw [Try.params9] at hA hval
  obtain ⟨v0, vs0, d0, ds0, p0, q0, hargs, rfl, rfl, hp0, rr0⟩ := trodAll_cons hA
  obtain ⟨rfl, rfl, rfl⟩ := trodAll_nil rr0
  obtain rfl : args = #[v0] := by cases args; simp_all
  obtain ⟨rfl, rfl⟩ := trodVars_none hV
  have kk0 := hp0
  have lt0 : ∀ x ∈ p0, x.block < W.heap.size := by obtain ⟨m, hm⟩ := kk0; exact DataW.trod_lt m _ _ _ hm
  obtain ⟨fu0, hf0⟩ := hp0
  obtain ⟨l0, K0, G0⟩ := (rdr_slice 5 Try.underlying25 cells5 (rdr_int Try.underlying5)).rd enc _ _ _ _ hf0
  obtain ⟨sa0, sl0, sc0, rfl⟩ := okWide_slice Try.underlying25 (hval 0 25 v0 rfl rfl)
  obtain ⟨A0, c0, e_0, hc0, hr0⟩ := K0
  obtain ⟨e1, e2, e3⟩ : sa0 = A0 ∧ sl0 = l0.length ∧ sc0 = c0 := by simpa [Value.cells] using e_0
  clear e_0
  subst e2
  obtain rfl := e1.symm
  obtain rfl := e3.symm
  clear hA0 hval0 hsz0
  obtain ⟨k, hk⟩ := Pure.FnOutOrder l0 G0
  refine (laws_FnOutOrder.calls k A0 c0 l0 true W hr0 hc0 hk).mono fun e W' ⟨he, bel0⟩ => ?_
  have bel : Below W.heap.size W W' := bel0
  subst he
  exact ⟨_, rfl, _, _, _, [], _, [], hW', trodAll_mk1 (shut_bool Try.underlying4 _), (trodAll_cons_mk (Below.trod laidOut (by kernel_rfl) (of_decide_eq_true (by kernel_rfl)) kk0 bel lt0) trodAll_mk0), rfl, bel.frame _, fun h => by cases h⟩
theorem over : Rows.fnOutOrderRow.holds Try.pinned (OpenSpec.ofChange Rows.fnOutOrderSpec) :=
  OpenClaim.holds_of_wide 9 Try.f9 rfl rfl rfl rfl rfl rfl rfl ⟨rfl, rfl, rfl, rfl, rfl⟩ rfl rfl rfl rfl rfl (by kernel_rfl) Try.func9 (by kernel_rfl)
    (of_decide_eq_true (by kernel_rfl)) (by unfold Func.isWrapper; first | (rw [if_pos (by decide +kernel)]; kernel_rfl) | (rw [if_neg (by decide +kernel)]; exact ⟨rfl, rfl⟩))
    (fun os started H enc _ => lifted os started H enc)
end Go.Proofs.Ytbgibmngijomfaa.fnOutOrderRow
namespace Go.Proofs.Ytbgibmngijomfaa
/-- The row, under a short name, for the claim. -/
theorem fnOutOrder_holds : Rows.FnOutOrderSaid := fnOutOrderRow.over
#print axioms fnOutOrder_holds
end Go.Proofs.Ytbgibmngijomfaa
