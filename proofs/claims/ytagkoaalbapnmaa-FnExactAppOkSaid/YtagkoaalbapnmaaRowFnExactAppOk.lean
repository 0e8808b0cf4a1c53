/- Proved: the row FnExactAppOkSaid: at every input the law returns true, and each argument reads behind the call as it did. No condition of ours. -/
import Derived.Test.YtagkoaalbapnmaaRows
import Derived.Test.YtagkoaalbapnmaaXAppOkx11
import Derived.Test.YtagkoaalbapnmaaGFnExactAppOk
import Derived.Test.YtagkoaalbapnmaaPureFnExactAppOk
import Derived.Test.YtagkoaalbapnmaaRdr
import Derived.WalkKit
import Derived.ProofKit
import Derived.OpenShut
import Derived.ShutString
import Derived.ChangeOld
import Derived.Below
import Derived.SizedLaws
namespace Go.Proofs.Ytagkoaalbapnmaa.fnExactAppOkRow
open Go.ChangeShapes Go.WideShapes Go.ChangeAt Go.RowKit Go.Proofs.YtagkoaalbapnmaaW.PrintWords Go.Proofs.YtagkoaalbapnmaaR Go.Proofs.Ytagkoaalbapnmaa.XAppOk
set_option linter.unusedVariables false
theorem own : ownKnob Try.prog.godebug = none := by kernel_rfl
theorem laidOut : laidOutB Try.prog = true := by kernel_rfl
theorem cells3 : Try.prog.cellsOf 3 = 1 := by kernel_rfl
theorem cells85 : Try.prog.cellsOf 85 = 1 := by kernel_rfl
theorem cells87 : Try.prog.cellsOf 87 = 1 := by kernel_rfl
theorem cells131 : Try.prog.cellsOf 131 = 1 := by kernel_rfl
theorem cells133 : Try.prog.cellsOf 133 = 2 := by kernel_rfl
theorem cells140 : Try.prog.cellsOf 140 = 5 := by kernel_rfl
theorem field_at {H : Type} {enc : TypeId × Value → H} {P : Program} {w : World} {fuel : Nat} {t : TypeId} {fs : Array Field} {cs : List Value} {y : DataW H × List MemPlace} (ht : P.underlying t = some (.struct fs))
    (h : DataW.trod enc P w 0 (fun _ => true) true fuel t cs = some y) (i : Nat) (f : Field) (hf : fs[i]? = some f) (u o s : Nat) (hu : f.type = u) (ho : f.offset = o) (hs : P.cellsOf u = s) : ∃ n z, DataW.trod enc P w 0 (fun _ => true) true n u ((cs.drop o).take s) = some z := by
  obtain ⟨xs, n, _, _, _, hl, hg⟩ := DataW.trod_struct ht h
  have h1 := hg i f hf
  have hi : i < xs.length := by rw [hl]; exact (Array.getElem?_eq_some_iff.1 hf).1
  rw [List.getElem?_eq_getElem hi, hu, ho, hs] at h1
  exact ⟨n, _, h1⟩
theorem rdr140 : Rdr Try.prog 140 k140 Good140 := ⟨by
  intro H enc w fuel cs y h
  have hlen : cs.length = 5 := by obtain ⟨_, _, _, _, hl, _⟩ := DataW.trod_struct Try.underlying140 h; exact hl.trans cells140
  obtain ⟨c0, c1, c2, c3, c4, rfl⟩ : ∃ c0 c1 c2 c3 c4, cs = [c0, c1, c2, c3, c4] := by match cs, hlen with | [c0, c1, c2, c3, c4], _ => exact ⟨_, _, _, _, _, rfl⟩
  obtain ⟨_, _, h0_0⟩ := field_at Try.underlying140 h 0 _ rfl 3 0 1 rfl rfl cells3
  replace h0_0 : DataW.trod enc Try.prog _ 0 (fun _ => true) true _ 3 [c0] = some _ := h0_0
  obtain ⟨x0, K0, G0⟩ := (rdr_int Try.underlying3).rd enc _ _ _ _ h0_0
  obtain ⟨_, _, h0_1⟩ := field_at Try.underlying140 h 1 _ rfl 3 1 1 rfl rfl cells3
  replace h0_1 : DataW.trod enc Try.prog _ 0 (fun _ => true) true _ 3 [c1] = some _ := h0_1
  obtain ⟨x1, K1, G1⟩ := (rdr_int Try.underlying3).rd enc _ _ _ _ h0_1
  obtain ⟨_, _, h0_2⟩ := field_at Try.underlying140 h 2 _ rfl 3 2 1 rfl rfl cells3
  replace h0_2 : DataW.trod enc Try.prog _ 0 (fun _ => true) true _ 3 [c2] = some _ := h0_2
  obtain ⟨x2, K2, G2⟩ := (rdr_int Try.underlying3).rd enc _ _ _ _ h0_2
  obtain ⟨_, _, h0_3⟩ := field_at Try.underlying140 h 3 _ rfl 3 3 1 rfl rfl cells3
  replace h0_3 : DataW.trod enc Try.prog _ 0 (fun _ => true) true _ 3 [c3] = some _ := h0_3
  obtain ⟨x3, K3, G3⟩ := (rdr_int Try.underlying3).rd enc _ _ _ _ h0_3
  obtain ⟨_, _, h0_4⟩ := field_at Try.underlying140 h 4 _ rfl 3 4 1 rfl rfl cells3
  replace h0_4 : DataW.trod enc Try.prog _ 0 (fun _ => true) true _ 3 [c4] = some _ := h0_4
  obtain ⟨x4, K4, G4⟩ := (rdr_int Try.underlying3).rd enc _ _ _ _ h0_4
  exact ⟨⟨x0, x1, x2, x3, x4⟩, ⟨[c0], [c1, c2, c3, c4], rfl, K0, ⟨[c1], [c2, c3, c4], rfl, K1, ⟨[c2], [c3, c4], rfl, K2, ⟨[c3], [c4], rfl, K3, K4⟩⟩⟩⟩, ⟨G0, G1, G2, G3, G4⟩⟩⟩
theorem rdr133 : Rdr Try.prog 133 k133 Good133 := ⟨by
  intro H enc w fuel cs y h
  have hlen : cs.length = 2 := by obtain ⟨_, _, _, _, hl, _⟩ := DataW.trod_struct Try.underlying133 h; exact hl.trans cells133
  obtain ⟨c0, c1, rfl⟩ : ∃ c0 c1, cs = [c0, c1] := by match cs, hlen with | [c0, c1], _ => exact ⟨_, _, rfl⟩
  obtain ⟨_, _, h0_0⟩ := field_at Try.underlying133 h 0 _ rfl 3 0 1 rfl rfl cells3
  replace h0_0 : DataW.trod enc Try.prog _ 0 (fun _ => true) true _ 3 [c0] = some _ := h0_0
  obtain ⟨x0, K0, G0⟩ := (rdr_int Try.underlying3).rd enc _ _ _ _ h0_0
  obtain ⟨_, _, h0_1⟩ := field_at Try.underlying133 h 1 _ rfl 131 1 1 rfl rfl cells131
  replace h0_1 : DataW.trod enc Try.prog _ 0 (fun _ => true) true _ 131 [c1] = some _ := h0_1
  obtain ⟨x1, K1, G1⟩ := (rdr_slice 140 Try.underlying131 cells140 rdr140).rd enc _ _ _ _ h0_1
  exact ⟨⟨x0, x1⟩, ⟨[c0], [c1], rfl, K0, K1⟩, ⟨G0, G1⟩⟩⟩
theorem rdr87 : Rdr Try.prog 87 k87 Good87 := ⟨by
  intro H enc w fuel cs y h
  have hlen : cs.length = 1 := by obtain ⟨_, _, _, _, hl, _⟩ := DataW.trod_struct Try.underlying87 h; exact hl.trans cells87
  obtain ⟨c0, rfl⟩ : ∃ c0, cs = [c0] := by match cs, hlen with | [c0], _ => exact ⟨_, rfl⟩
  obtain ⟨_, _, h0_0⟩ := field_at Try.underlying87 h 0 _ rfl 85 0 1 rfl rfl cells85
  replace h0_0 : DataW.trod enc Try.prog _ 0 (fun _ => true) true _ 85 [c0] = some _ := h0_0
  obtain ⟨x0, K0, G0⟩ := (rdr_slice 133 Try.underlying85 cells133 rdr133).rd enc _ _ _ _ h0_0
  exact ⟨⟨x0⟩, K0, G0⟩⟩
set_option maxRecDepth 100000 in
set_option maxHeartbeats 4000000 in
theorem lifted (os : Os) (started : os.Started) (H : Type) (enc : TypeId × Value → H) :
    ReturnsInHanded {} Try.checked os 5 .any (Rows.fnExactAppOkSpec.pre6 enc Try.prog Try.f5 Rows.fnExactAppOkRow.domain false) (Rows.fnExactAppOkSpec.post enc Try.prog Try.f5 false true false false) := by
  refine returnsInHanded_of_change_sized (C := Try.checked) own started (by kernel_rfl) Try.func5
    (ChangeSpec.witness6 (enc := enc) (C := Try.checked) false ⟨#[], #[.slice none 0 0], []⟩ 8 (by kernel_rfl) (by kernel_rfl) (by kernel_rfl) (by kernel_rfl)) ?_
  intro W base args ds gs before hval0 hW hcnd hsz0 _
  have hval : ∀ (j : Nat) t v, Try.f5.params[j]? = some t → args[j]? = some v → Value.okWide Try.prog W .any base t v := hval0
  have hW' := hW
  obtain ⟨p, q, hA0, hV, rfl, hfz, hnd⟩ := hW
  have hA : DataW.TrodAll enc Try.prog W 0 (fun _ => true) true Try.f5.params.toList args.toList ds p := hA0
  rw [Try.params5] at hA hval
  obtain ⟨v0, vs0, d0, ds0, p0, q0, hargs, rfl, rfl, hp0, rr0⟩ := trodAll_cons hA
  obtain ⟨rfl, rfl, rfl⟩ := trodAll_nil rr0
  obtain rfl : args = #[v0] := by cases args; simp_all
  obtain ⟨rfl, rfl⟩ := trodVars_none hV
  have kk0 := hp0
  have lt0 : ∀ x ∈ p0, x.block < W.heap.size := by obtain ⟨m, hm⟩ := kk0; exact DataW.trod_lt m _ _ _ hm
  obtain ⟨fu0, hf0⟩ := hp0
  obtain ⟨l0, K0, G0⟩ := (rdr_slice 87 Try.underlying38 cells87 rdr87).rd enc _ _ _ _ hf0
  obtain ⟨sa0, sl0, sc0, rfl⟩ := okWide_slice Try.underlying38 (hval 0 38 v0 rfl rfl)
  obtain ⟨A0, c0, e_0, hc0, hr0⟩ := K0
  obtain ⟨e1, e2, e3⟩ : sa0 = A0 ∧ sl0 = l0.length ∧ sc0 = c0 := by simpa [Value.cells] using e_0
  clear e_0
  subst e2
  obtain rfl := e1.symm
  obtain rfl := e3.symm
  clear hA0 hval0 hsz0
  obtain ⟨k, hk⟩ := Pure.FnExactAppOk l0 G0
  refine (laws_FnExactAppOk.calls k A0 c0 l0 true W hr0 hc0 hk).mono fun e W' ⟨he, bel0⟩ => ?_
  have bel : Below W.heap.size W W' := bel0
  subst he
  exact ⟨_, rfl, _, _, _, [], _, [], hW', trodAll_mk1 (shut_bool Try.underlying4 _), (trodAll_cons_mk (Below.trod laidOut (by kernel_rfl) (of_decide_eq_true (by kernel_rfl)) kk0 bel lt0) trodAll_mk0), rfl, bel.frame _, fun h => by cases h⟩
theorem over : Rows.fnExactAppOkRow.holds Try.pinned (OpenSpec.ofChange Rows.fnExactAppOkSpec) :=
  OpenClaim.holds_of_wide 5 Try.f5 rfl rfl rfl rfl rfl rfl rfl ⟨rfl, rfl, rfl, rfl, rfl⟩ rfl rfl rfl rfl rfl (by kernel_rfl) Try.func5 (by kernel_rfl)
    (of_decide_eq_true (by kernel_rfl)) (by unfold Func.isWrapper; first | (rw [if_pos (by decide +kernel)]; kernel_rfl) | (rw [if_neg (by decide +kernel)]; exact ⟨rfl, rfl⟩))
    (fun os started H enc _ => lifted os started H enc)
end Go.Proofs.Ytagkoaalbapnmaa.fnExactAppOkRow
namespace Go.Proofs.Ytagkoaalbapnmaa
/-- The row, under a short name, for the claim. -/
theorem fnExactAppOk_holds : Rows.FnExactAppOkSaid := fnExactAppOkRow.over
#print axioms fnExactAppOk_holds
end Go.Proofs.Ytagkoaalbapnmaa
