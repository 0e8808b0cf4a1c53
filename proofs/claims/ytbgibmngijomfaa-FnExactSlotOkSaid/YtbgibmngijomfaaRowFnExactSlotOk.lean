/- Proved: the row FnExactSlotOkSaid: at every input the law returns true, and each argument reads behind the call as it did. No condition of ours. -/
import Derived.Test.YtbgibmngijomfaaRows
import Derived.Test.YtbgibmngijomfaaXSlotOkx4
import Derived.Test.YtbgibmngijomfaaGFnExactSlotOk
import Derived.Test.YtbgibmngijomfaaPureFnExactSlotOk
import Derived.Test.YtbgibmngijomfaaRdr
import Derived.WalkKit
import Derived.ProofKit
import Derived.OpenShut
import Derived.ShutString
import Derived.ChangeOld
import Derived.Below
import Derived.SizedLaws
namespace Go.Proofs.Ytbgibmngijomfaa.fnExactSlotOkRow
open Go.ChangeShapes Go.WideShapes Go.ChangeAt Go.RowKit Go.Proofs.YtbgibmngijomfaaW.PrintWords Go.Proofs.YtbgibmngijomfaaR Go.Proofs.Ytbgibmngijomfaa.XSlotOk
set_option linter.unusedVariables false
theorem own : ownKnob Try.prog.godebug = none := by kernel_rfl
theorem laidOut : laidOutB Try.prog = true := by kernel_rfl
theorem cells3 : Try.prog.cellsOf 3 = 1 := by kernel_rfl
theorem cells43 : Try.prog.cellsOf 43 = 1 := by kernel_rfl
theorem cells58 : Try.prog.cellsOf 58 = 3 := by kernel_rfl
theorem cells60 : Try.prog.cellsOf 60 = 6 := by kernel_rfl
theorem cells73 : Try.prog.cellsOf 73 = 1 := by kernel_rfl
theorem arr6 (cs : Array Value) (h : cs.size = 6) : ∃ v0 v1 v2 v3 v4 v5, cs = #[v0, v1, v2, v3, v4, v5] := by
  match cs, h with
  | ⟨[v0, v1, v2, v3, v4, v5]⟩, _ => exact ⟨_, _, _, _, _, _, rfl⟩
theorem field_at {H : Type} {enc : TypeId × Value → H} {P : Program} {w : World} {fuel : Nat} {t : TypeId} {fs : Array Field} {cs : List Value} {y : DataW H × List MemPlace} (ht : P.underlying t = some (.struct fs))
    (h : DataW.trod enc P w 0 (fun _ => true) true fuel t cs = some y) (i : Nat) (f : Field) (hf : fs[i]? = some f) (u o s : Nat) (hu : f.type = u) (ho : f.offset = o) (hs : P.cellsOf u = s) : ∃ n z, DataW.trod enc P w 0 (fun _ => true) true n u ((cs.drop o).take s) = some z := by
  obtain ⟨xs, n, _, _, _, hl, hg⟩ := DataW.trod_struct ht h
  have h1 := hg i f hf
  have hi : i < xs.length := by rw [hl]; exact (Array.getElem?_eq_some_iff.1 hf).1
  rw [List.getElem?_eq_getElem hi, hu, ho, hs] at h1
  exact ⟨n, _, h1⟩
set_option maxRecDepth 100000 in
set_option maxHeartbeats 4000000 in
theorem lifted (os : Os) (started : os.Started) (H : Type) (enc : TypeId × Value → H) :
    ReturnsInHanded {} Try.checked os 13 .any (Rows.fnExactSlotOkSpec.pre6 enc Try.prog Try.f13 Rows.fnExactSlotOkRow.domain false) (Rows.fnExactSlotOkSpec.post enc Try.prog Try.f13 false true false false) := by
  refine returnsInHanded_of_change_sized (C := Try.checked) own started (by kernel_rfl) Try.func13
    (ChangeSpec.witness6 (enc := enc) (C := Try.checked) false ⟨#[], #[.agg #[.int .i64 0, .int .i64 0, .slice none 0 0, .int .i64 0, .int .i64 0, .slice none 0 0]], []⟩ 8 (by kernel_rfl) (by kernel_rfl) (by kernel_rfl) (by kernel_rfl)) ?_
  intro W base args ds gs before hval0 hW hcnd hsz0 _
  have hval : ∀ (j : Nat) t v, Try.f13.params[j]? = some t → args[j]? = some v → Value.okWide Try.prog W .any base t v := hval0
  have hW' := hW
  obtain ⟨p, q, hA0, hV, rfl, hfz, hnd⟩ := hW
  have hA : DataW.TrodAll enc Try.prog W 0 (fun _ => true) true Try.f13.params.toList args.toList ds p := hA0
  rw [Try.params13] at hA hval
  obtain ⟨v0, vs0, d0, ds0, p0, q0, hargs, rfl, rfl, hp0, rr0⟩ := trodAll_cons hA
  obtain ⟨rfl, rfl, rfl⟩ := trodAll_nil rr0
  obtain rfl : args = #[v0] := by cases args; simp_all
  obtain ⟨rfl, rfl⟩ := trodVars_none hV
  have kk0 := hp0
  have lt0 : ∀ x ∈ p0, x.block < W.heap.size := by obtain ⟨m, hm⟩ := kk0; exact DataW.trod_lt m _ _ _ hm
  obtain ⟨fu0, hf0⟩ := hp0
  obtain ⟨cs0, rfl, hz0⟩ := okWide_struct Try.underlying60 (hval 0 60 v0 rfl rfl)
  obtain ⟨u0_0, u0_1, u0_2, u0_3, u0_4, u0_5, rfl⟩ := arr6 cs0 (hz0.trans cells60)
  replace hf0 : DataW.trod enc Try.prog W 0 (fun _ => true) true fu0 60 [u0_0, u0_1, u0_2, u0_3, u0_4, u0_5] = some _ := hf0
  obtain ⟨_, _, h0_0_0s⟩ := field_at Try.underlying60 hf0 0 _ rfl 58 0 3 rfl rfl cells58
  replace h0_0_0s : DataW.trod enc Try.prog _ 0 (fun _ => true) true _ 58 [u0_0, u0_1, u0_2] = some _ := h0_0_0s
  obtain ⟨_, _, h0_1_0⟩ := field_at Try.underlying58 h0_0_0s 0 _ rfl 3 0 1 rfl rfl cells3
  replace h0_1_0 : DataW.trod enc Try.prog _ 0 (fun _ => true) true _ 3 [u0_0] = some _ := h0_1_0
  obtain ⟨x0_0, K0_0, G0_0⟩ := (rdr_int Try.underlying3).rd enc _ _ _ _ h0_1_0
  obtain ⟨_, _, h0_1_1⟩ := field_at Try.underlying58 h0_0_0s 1 _ rfl 3 1 1 rfl rfl cells3
  replace h0_1_1 : DataW.trod enc Try.prog _ 0 (fun _ => true) true _ 3 [u0_1] = some _ := h0_1_1
  obtain ⟨x0_1, K0_1, G0_1⟩ := (rdr_int Try.underlying3).rd enc _ _ _ _ h0_1_1
  obtain ⟨_, _, h0_1_2⟩ := field_at Try.underlying58 h0_0_0s 2 _ rfl 43 2 1 rfl rfl cells43
  replace h0_1_2 : DataW.trod enc Try.prog _ 0 (fun _ => true) true _ 43 [u0_2] = some _ := h0_1_2
  obtain ⟨x0_2, K0_2, G0_2⟩ := (rdr_slice 73 Try.underlying43 cells73 (rdr_slice 3 Try.underlying73 cells3 (rdr_int Try.underlying3))).rd enc _ _ _ _ h0_1_2
  obtain ⟨_, _, h0_0_1s⟩ := field_at Try.underlying60 hf0 1 _ rfl 58 3 3 rfl rfl cells58
  replace h0_0_1s : DataW.trod enc Try.prog _ 0 (fun _ => true) true _ 58 [u0_3, u0_4, u0_5] = some _ := h0_0_1s
  obtain ⟨_, _, h0_2_0⟩ := field_at Try.underlying58 h0_0_1s 0 _ rfl 3 0 1 rfl rfl cells3
  replace h0_2_0 : DataW.trod enc Try.prog _ 0 (fun _ => true) true _ 3 [u0_3] = some _ := h0_2_0
  obtain ⟨x0_3, K0_3, G0_3⟩ := (rdr_int Try.underlying3).rd enc _ _ _ _ h0_2_0
  obtain ⟨_, _, h0_2_1⟩ := field_at Try.underlying58 h0_0_1s 1 _ rfl 3 1 1 rfl rfl cells3
  replace h0_2_1 : DataW.trod enc Try.prog _ 0 (fun _ => true) true _ 3 [u0_4] = some _ := h0_2_1
  obtain ⟨x0_4, K0_4, G0_4⟩ := (rdr_int Try.underlying3).rd enc _ _ _ _ h0_2_1
  obtain ⟨_, _, h0_2_2⟩ := field_at Try.underlying58 h0_0_1s 2 _ rfl 43 2 1 rfl rfl cells43
  replace h0_2_2 : DataW.trod enc Try.prog _ 0 (fun _ => true) true _ 43 [u0_5] = some _ := h0_2_2
  obtain ⟨x0_5, K0_5, G0_5⟩ := (rdr_slice 73 Try.underlying43 cells73 (rdr_slice 3 Try.underlying73 cells3 (rdr_int Try.underlying3))).rd enc _ _ _ _ h0_2_2
  obtain ⟨a0_0, rfl⟩ : ∃ z, z = x0_0 := ⟨_, rfl⟩
  have e_0_0 : [u0_0] = [.int .i64 a0_0] := K0_0
  obtain rfl : u0_0 = .int .i64 a0_0 := by simpa using e_0_0
  obtain ⟨a0_1, rfl⟩ : ∃ z, z = x0_1 := ⟨_, rfl⟩
  have e_0_1 : [u0_1] = [.int .i64 a0_1] := K0_1
  obtain rfl : u0_1 = .int .i64 a0_1 := by simpa using e_0_1
  obtain ⟨l0_2, rfl⟩ : ∃ z, z = x0_2 := ⟨_, rfl⟩
  obtain ⟨A0_2, c0_2, e_0_2, hc0_2, hr0_2⟩ := K0_2
  obtain rfl : u0_2 = .slice A0_2 l0_2.length c0_2 := by simpa using e_0_2
  obtain ⟨a0_3, rfl⟩ : ∃ z, z = x0_3 := ⟨_, rfl⟩
  have e_0_3 : [u0_3] = [.int .i64 a0_3] := K0_3
  obtain rfl : u0_3 = .int .i64 a0_3 := by simpa using e_0_3
  obtain ⟨a0_4, rfl⟩ : ∃ z, z = x0_4 := ⟨_, rfl⟩
  have e_0_4 : [u0_4] = [.int .i64 a0_4] := K0_4
  obtain rfl : u0_4 = .int .i64 a0_4 := by simpa using e_0_4
  obtain ⟨l0_5, rfl⟩ : ∃ z, z = x0_5 := ⟨_, rfl⟩
  obtain ⟨A0_5, c0_5, e_0_5, hc0_5, hr0_5⟩ := K0_5
  obtain rfl : u0_5 = .slice A0_5 l0_5.length c0_5 := by simpa using e_0_5
  clear hA0 hval0 hsz0
  obtain ⟨k, hk⟩ := Pure.FnExactSlotOk a0_0 a0_1 l0_2 a0_3 a0_4 l0_5 G0_0 G0_1 G0_2 G0_3 G0_4 G0_5
  refine (laws_FnExactSlotOk.calls k a0_0 a0_1 A0_2 c0_2 l0_2 a0_3 a0_4 A0_5 c0_5 l0_5 true W hr0_2 hc0_2 hr0_5 hc0_5 hk).mono fun e W' ⟨he, bel0⟩ => ?_
  have bel : Below W.heap.size W W' := bel0
  subst he
  exact ⟨_, rfl, _, _, _, [], _, [], hW', trodAll_mk1 (shut_bool Try.underlying4 _), (trodAll_cons_mk (Below.trod laidOut (by kernel_rfl) (of_decide_eq_true (by kernel_rfl)) kk0 bel lt0) trodAll_mk0), rfl, bel.frame _, fun h => by cases h⟩
theorem over : Rows.fnExactSlotOkRow.holds Try.pinned (OpenSpec.ofChange Rows.fnExactSlotOkSpec) :=
  OpenClaim.holds_of_wide 13 Try.f13 rfl rfl rfl rfl rfl rfl rfl ⟨rfl, rfl, rfl, rfl, rfl⟩ rfl rfl rfl rfl rfl (by kernel_rfl) Try.func13 (by kernel_rfl)
    (of_decide_eq_true (by kernel_rfl)) (by unfold Func.isWrapper; first | (rw [if_pos (by decide +kernel)]; kernel_rfl) | (rw [if_neg (by decide +kernel)]; exact ⟨rfl, rfl⟩))
    (fun os started H enc _ => lifted os started H enc)
end Go.Proofs.Ytbgibmngijomfaa.fnExactSlotOkRow
namespace Go.Proofs.Ytbgibmngijomfaa
/-- The row, under a short name, for the claim. -/
theorem fnExactSlotOk_holds : Rows.FnExactSlotOkSaid := fnExactSlotOkRow.over
#print axioms fnExactSlotOk_holds
end Go.Proofs.Ytbgibmngijomfaa
