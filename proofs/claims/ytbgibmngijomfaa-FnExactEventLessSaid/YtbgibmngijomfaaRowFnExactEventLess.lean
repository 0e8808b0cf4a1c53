/- Proved: the row FnExactEventLessSaid: at every input the law returns true, and each argument reads behind the call as it did. No condition of ours. -/
import Derived.Test.YtbgibmngijomfaaRows
import Derived.Test.YtbgibmngijomfaaXEventLessx2
import Derived.Test.YtbgibmngijomfaaGFnExactEventLess
import Derived.Test.YtbgibmngijomfaaPureFnExactEventLess
import Derived.Test.YtbgibmngijomfaaRdr
import Derived.WalkKit
import Derived.ProofKit
import Derived.OpenShut
import Derived.ShutString
import Derived.ChangeOld
import Derived.Below
import Derived.SizedLaws
namespace Go.Proofs.Ytbgibmngijomfaa.fnExactEventLessRow
open Go.ChangeShapes Go.WideShapes Go.ChangeAt Go.RowKit Go.Proofs.YtbgibmngijomfaaW.PrintWords Go.Proofs.YtbgibmngijomfaaR Go.Proofs.Ytbgibmngijomfaa.XEventLess
set_option linter.unusedVariables false
theorem own : ownKnob Try.prog.godebug = none := by kernel_rfl
theorem laidOut : laidOutB Try.prog = true := by kernel_rfl
theorem cells3 : Try.prog.cellsOf 3 = 1 := by kernel_rfl
theorem cells38 : Try.prog.cellsOf 38 = 7 := by kernel_rfl
theorem arr7 (cs : Array Value) (h : cs.size = 7) : ∃ v0 v1 v2 v3 v4 v5 v6, cs = #[v0, v1, v2, v3, v4, v5, v6] := by
  match cs, h with
  | ⟨[v0, v1, v2, v3, v4, v5, v6]⟩, _ => exact ⟨_, _, _, _, _, _, _, rfl⟩
theorem field_at {H : Type} {enc : TypeId × Value → H} {P : Program} {w : World} {fuel : Nat} {t : TypeId} {fs : Array Field} {cs : List Value} {y : DataW H × List MemPlace} (ht : P.underlying t = some (.struct fs))
    (h : DataW.trod enc P w 0 (fun _ => true) true fuel t cs = some y) (i : Nat) (f : Field) (hf : fs[i]? = some f) (u o s : Nat) (hu : f.type = u) (ho : f.offset = o) (hs : P.cellsOf u = s) : ∃ n z, DataW.trod enc P w 0 (fun _ => true) true n u ((cs.drop o).take s) = some z := by
  obtain ⟨xs, n, _, _, _, hl, hg⟩ := DataW.trod_struct ht h
  have h1 := hg i f hf
  have hi : i < xs.length := by rw [hl]; exact (Array.getElem?_eq_some_iff.1 hf).1
  rw [List.getElem?_eq_getElem hi, hu, ho, hs] at h1
  exact ⟨n, _, h1⟩
set_option maxRecDepth 100000 in
set_option maxHeartbeats 4000000 in
theorem lifted (os : Os) (started : os.Started) (H : Type) (enc : TypeId × Value → H) :
    ReturnsInHanded {} Try.checked os 8 .any (Rows.fnExactEventLessSpec.pre6 enc Try.prog Try.f8 Rows.fnExactEventLessRow.domain false) (Rows.fnExactEventLessSpec.post enc Try.prog Try.f8 false true false false) := by
  refine returnsInHanded_of_change_sized (C := Try.checked) own started (by kernel_rfl) Try.func8
    (ChangeSpec.witness6 (enc := enc) (C := Try.checked) false ⟨#[], #[.agg #[.int .i64 0, .int .i64 0, .int .i64 0, .int .i64 0, .int .i64 0, .int .i64 0, .int .i64 0], .agg #[.int .i64 0, .int .i64 0, .int .i64 0, .int .i64 0, .int .i64 0, .int .i64 0, .int .i64 0]], []⟩ 8 (by kernel_rfl) (by kernel_rfl) (by kernel_rfl) (by kernel_rfl)) ?_
  intro W base args ds gs before hval0 hW hcnd hsz0 _
  have hval : ∀ (j : Nat) t v, Try.f8.params[j]? = some t → args[j]? = some v → Value.okWide Try.prog W .any base t v := hval0
  have hW' := hW
  obtain ⟨p, q, hA0, hV, rfl, hfz, hnd⟩ := hW
  have hA : DataW.TrodAll enc Try.prog W 0 (fun _ => true) true Try.f8.params.toList args.toList ds p := hA0
  rw [Try.params8] at hA hval
  obtain ⟨v0, vs0, d0, ds0, p0, q0, hargs, rfl, rfl, hp0, rr0⟩ := trodAll_cons hA
  obtain ⟨v1, vs1, d1, ds1, p1, q1, rfl, rfl, rfl, hp1, rr1⟩ := trodAll_cons rr0
  obtain ⟨rfl, rfl, rfl⟩ := trodAll_nil rr1
  obtain rfl : args = #[v0, v1] := by cases args; simp_all
  obtain ⟨rfl, rfl⟩ := trodVars_none hV
  have kk0 := hp0
  have lt0 : ∀ x ∈ p0, x.block < W.heap.size := by obtain ⟨m, hm⟩ := kk0; exact DataW.trod_lt m _ _ _ hm
  obtain ⟨fu0, hf0⟩ := hp0
  obtain ⟨cs0, rfl, hz0⟩ := okWide_struct Try.underlying38 (hval 0 38 v0 rfl rfl)
  obtain ⟨u0_0, u0_1, u0_2, u0_3, u0_4, u0_5, u0_6, rfl⟩ := arr7 cs0 (hz0.trans cells38)
  replace hf0 : DataW.trod enc Try.prog W 0 (fun _ => true) true fu0 38 [u0_0, u0_1, u0_2, u0_3, u0_4, u0_5, u0_6] = some _ := hf0
  obtain ⟨_, _, h0_0_0⟩ := field_at Try.underlying38 hf0 0 _ rfl 3 0 1 rfl rfl cells3
  replace h0_0_0 : DataW.trod enc Try.prog _ 0 (fun _ => true) true _ 3 [u0_0] = some _ := h0_0_0
  obtain ⟨x0_0, K0_0, G0_0⟩ := (rdr_int Try.underlying3).rd enc _ _ _ _ h0_0_0
  obtain ⟨_, _, h0_0_1⟩ := field_at Try.underlying38 hf0 1 _ rfl 3 1 1 rfl rfl cells3
  replace h0_0_1 : DataW.trod enc Try.prog _ 0 (fun _ => true) true _ 3 [u0_1] = some _ := h0_0_1
  obtain ⟨x0_1, K0_1, G0_1⟩ := (rdr_int Try.underlying3).rd enc _ _ _ _ h0_0_1
  obtain ⟨_, _, h0_0_2⟩ := field_at Try.underlying38 hf0 2 _ rfl 3 2 1 rfl rfl cells3
  replace h0_0_2 : DataW.trod enc Try.prog _ 0 (fun _ => true) true _ 3 [u0_2] = some _ := h0_0_2
  obtain ⟨x0_2, K0_2, G0_2⟩ := (rdr_int Try.underlying3).rd enc _ _ _ _ h0_0_2
  obtain ⟨_, _, h0_0_3⟩ := field_at Try.underlying38 hf0 3 _ rfl 3 3 1 rfl rfl cells3
  replace h0_0_3 : DataW.trod enc Try.prog _ 0 (fun _ => true) true _ 3 [u0_3] = some _ := h0_0_3
  obtain ⟨x0_3, K0_3, G0_3⟩ := (rdr_int Try.underlying3).rd enc _ _ _ _ h0_0_3
  obtain ⟨_, _, h0_0_4⟩ := field_at Try.underlying38 hf0 4 _ rfl 3 4 1 rfl rfl cells3
  replace h0_0_4 : DataW.trod enc Try.prog _ 0 (fun _ => true) true _ 3 [u0_4] = some _ := h0_0_4
  obtain ⟨x0_4, K0_4, G0_4⟩ := (rdr_int Try.underlying3).rd enc _ _ _ _ h0_0_4
  obtain ⟨_, _, h0_0_5⟩ := field_at Try.underlying38 hf0 5 _ rfl 3 5 1 rfl rfl cells3
  replace h0_0_5 : DataW.trod enc Try.prog _ 0 (fun _ => true) true _ 3 [u0_5] = some _ := h0_0_5
  obtain ⟨x0_5, K0_5, G0_5⟩ := (rdr_int Try.underlying3).rd enc _ _ _ _ h0_0_5
  obtain ⟨_, _, h0_0_6⟩ := field_at Try.underlying38 hf0 6 _ rfl 3 6 1 rfl rfl cells3
  replace h0_0_6 : DataW.trod enc Try.prog _ 0 (fun _ => true) true _ 3 [u0_6] = some _ := h0_0_6
  obtain ⟨x0_6, K0_6, G0_6⟩ := (rdr_int Try.underlying3).rd enc _ _ _ _ h0_0_6
  obtain ⟨a0_0, rfl⟩ : ∃ z, z = x0_0 := ⟨_, rfl⟩
  have e_0_0 : [u0_0] = [.int .i64 a0_0] := K0_0
  obtain rfl : u0_0 = .int .i64 a0_0 := by simpa using e_0_0
  obtain ⟨a0_1, rfl⟩ : ∃ z, z = x0_1 := ⟨_, rfl⟩
  have e_0_1 : [u0_1] = [.int .i64 a0_1] := K0_1
  obtain rfl : u0_1 = .int .i64 a0_1 := by simpa using e_0_1
  obtain ⟨a0_2, rfl⟩ : ∃ z, z = x0_2 := ⟨_, rfl⟩
  have e_0_2 : [u0_2] = [.int .i64 a0_2] := K0_2
  obtain rfl : u0_2 = .int .i64 a0_2 := by simpa using e_0_2
  obtain ⟨a0_3, rfl⟩ : ∃ z, z = x0_3 := ⟨_, rfl⟩
  have e_0_3 : [u0_3] = [.int .i64 a0_3] := K0_3
  obtain rfl : u0_3 = .int .i64 a0_3 := by simpa using e_0_3
  obtain ⟨a0_4, rfl⟩ : ∃ z, z = x0_4 := ⟨_, rfl⟩
  have e_0_4 : [u0_4] = [.int .i64 a0_4] := K0_4
  obtain rfl : u0_4 = .int .i64 a0_4 := by simpa using e_0_4
  obtain ⟨a0_5, rfl⟩ : ∃ z, z = x0_5 := ⟨_, rfl⟩
  have e_0_5 : [u0_5] = [.int .i64 a0_5] := K0_5
  obtain rfl : u0_5 = .int .i64 a0_5 := by simpa using e_0_5
  obtain ⟨a0_6, rfl⟩ : ∃ z, z = x0_6 := ⟨_, rfl⟩
  have e_0_6 : [u0_6] = [.int .i64 a0_6] := K0_6
  obtain rfl : u0_6 = .int .i64 a0_6 := by simpa using e_0_6
  have kk1 := hp1
  have lt1 : ∀ x ∈ p1, x.block < W.heap.size := by obtain ⟨m, hm⟩ := kk1; exact DataW.trod_lt m _ _ _ hm
  obtain ⟨fu1, hf1⟩ := hp1
  obtain ⟨cs1, rfl, hz1⟩ := okWide_struct Try.underlying38 (hval 1 38 v1 rfl rfl)
  obtain ⟨u1_0, u1_1, u1_2, u1_3, u1_4, u1_5, u1_6, rfl⟩ := arr7 cs1 (hz1.trans cells38)
  replace hf1 : DataW.trod enc Try.prog W 0 (fun _ => true) true fu1 38 [u1_0, u1_1, u1_2, u1_3, u1_4, u1_5, u1_6] = some _ := hf1
  obtain ⟨_, _, h1_0_0⟩ := field_at Try.underlying38 hf1 0 _ rfl 3 0 1 rfl rfl cells3
  replace h1_0_0 : DataW.trod enc Try.prog _ 0 (fun _ => true) true _ 3 [u1_0] = some _ := h1_0_0
  obtain ⟨x1_0, K1_0, G1_0⟩ := (rdr_int Try.underlying3).rd enc _ _ _ _ h1_0_0
  obtain ⟨_, _, h1_0_1⟩ := field_at Try.underlying38 hf1 1 _ rfl 3 1 1 rfl rfl cells3
  replace h1_0_1 : DataW.trod enc Try.prog _ 0 (fun _ => true) true _ 3 [u1_1] = some _ := h1_0_1
  obtain ⟨x1_1, K1_1, G1_1⟩ := (rdr_int Try.underlying3).rd enc _ _ _ _ h1_0_1
  obtain ⟨_, _, h1_0_2⟩ := field_at Try.underlying38 hf1 2 _ rfl 3 2 1 rfl rfl cells3
  replace h1_0_2 : DataW.trod enc Try.prog _ 0 (fun _ => true) true _ 3 [u1_2] = some _ := h1_0_2
  obtain ⟨x1_2, K1_2, G1_2⟩ := (rdr_int Try.underlying3).rd enc _ _ _ _ h1_0_2
  obtain ⟨_, _, h1_0_3⟩ := field_at Try.underlying38 hf1 3 _ rfl 3 3 1 rfl rfl cells3
  replace h1_0_3 : DataW.trod enc Try.prog _ 0 (fun _ => true) true _ 3 [u1_3] = some _ := h1_0_3
  obtain ⟨x1_3, K1_3, G1_3⟩ := (rdr_int Try.underlying3).rd enc _ _ _ _ h1_0_3
  obtain ⟨_, _, h1_0_4⟩ := field_at Try.underlying38 hf1 4 _ rfl 3 4 1 rfl rfl cells3
  replace h1_0_4 : DataW.trod enc Try.prog _ 0 (fun _ => true) true _ 3 [u1_4] = some _ := h1_0_4
  obtain ⟨x1_4, K1_4, G1_4⟩ := (rdr_int Try.underlying3).rd enc _ _ _ _ h1_0_4
  obtain ⟨_, _, h1_0_5⟩ := field_at Try.underlying38 hf1 5 _ rfl 3 5 1 rfl rfl cells3
  replace h1_0_5 : DataW.trod enc Try.prog _ 0 (fun _ => true) true _ 3 [u1_5] = some _ := h1_0_5
  obtain ⟨x1_5, K1_5, G1_5⟩ := (rdr_int Try.underlying3).rd enc _ _ _ _ h1_0_5
  obtain ⟨_, _, h1_0_6⟩ := field_at Try.underlying38 hf1 6 _ rfl 3 6 1 rfl rfl cells3
  replace h1_0_6 : DataW.trod enc Try.prog _ 0 (fun _ => true) true _ 3 [u1_6] = some _ := h1_0_6
  obtain ⟨x1_6, K1_6, G1_6⟩ := (rdr_int Try.underlying3).rd enc _ _ _ _ h1_0_6
  obtain ⟨a1_0, rfl⟩ : ∃ z, z = x1_0 := ⟨_, rfl⟩
  have e_1_0 : [u1_0] = [.int .i64 a1_0] := K1_0
  obtain rfl : u1_0 = .int .i64 a1_0 := by simpa using e_1_0
  obtain ⟨a1_1, rfl⟩ : ∃ z, z = x1_1 := ⟨_, rfl⟩
  have e_1_1 : [u1_1] = [.int .i64 a1_1] := K1_1
  obtain rfl : u1_1 = .int .i64 a1_1 := by simpa using e_1_1
  obtain ⟨a1_2, rfl⟩ : ∃ z, z = x1_2 := ⟨_, rfl⟩
  have e_1_2 : [u1_2] = [.int .i64 a1_2] := K1_2
  obtain rfl : u1_2 = .int .i64 a1_2 := by simpa using e_1_2
  obtain ⟨a1_3, rfl⟩ : ∃ z, z = x1_3 := ⟨_, rfl⟩
  have e_1_3 : [u1_3] = [.int .i64 a1_3] := K1_3
  obtain rfl : u1_3 = .int .i64 a1_3 := by simpa using e_1_3
  obtain ⟨a1_4, rfl⟩ : ∃ z, z = x1_4 := ⟨_, rfl⟩
  have e_1_4 : [u1_4] = [.int .i64 a1_4] := K1_4
  obtain rfl : u1_4 = .int .i64 a1_4 := by simpa using e_1_4
  obtain ⟨a1_5, rfl⟩ : ∃ z, z = x1_5 := ⟨_, rfl⟩
  have e_1_5 : [u1_5] = [.int .i64 a1_5] := K1_5
  obtain rfl : u1_5 = .int .i64 a1_5 := by simpa using e_1_5
  obtain ⟨a1_6, rfl⟩ : ∃ z, z = x1_6 := ⟨_, rfl⟩
  have e_1_6 : [u1_6] = [.int .i64 a1_6] := K1_6
  obtain rfl : u1_6 = .int .i64 a1_6 := by simpa using e_1_6
  clear hA0 hval0 hsz0
  obtain ⟨k, hk⟩ := Pure.FnExactEventLess a0_0 a0_1 a0_2 a0_3 a0_4 a0_5 a0_6 a1_0 a1_1 a1_2 a1_3 a1_4 a1_5 a1_6 G0_0 G0_1 G0_2 G0_3 G0_4 G0_5 G0_6 G1_0 G1_1 G1_2 G1_3 G1_4 G1_5 G1_6
  refine (laws_FnExactEventLess.calls k a0_0 a0_1 a0_2 a0_3 a0_4 a0_5 a0_6 a1_0 a1_1 a1_2 a1_3 a1_4 a1_5 a1_6 true W hk).mono fun e W' ⟨he, bel0⟩ => ?_
  have bel : Below W.heap.size W W' := bel0
  subst he
  exact ⟨_, rfl, _, _, _, [], _, [], hW', trodAll_mk1 (shut_bool Try.underlying4 _), (trodAll_cons_mk (Below.trod laidOut (by kernel_rfl) (of_decide_eq_true (by kernel_rfl)) kk0 bel lt0) (trodAll_cons_mk (Below.trod laidOut (by kernel_rfl) (of_decide_eq_true (by kernel_rfl)) kk1 bel lt1) trodAll_mk0)), rfl, bel.frame _, fun h => by cases h⟩
theorem over : Rows.fnExactEventLessRow.holds Try.pinned (OpenSpec.ofChange Rows.fnExactEventLessSpec) :=
  OpenClaim.holds_of_wide 8 Try.f8 rfl rfl rfl rfl rfl rfl rfl ⟨rfl, rfl, rfl, rfl, rfl⟩ rfl rfl rfl rfl rfl (by kernel_rfl) Try.func8 (by kernel_rfl)
    (of_decide_eq_true (by kernel_rfl)) (by unfold Func.isWrapper; first | (rw [if_pos (by decide +kernel)]; kernel_rfl) | (rw [if_neg (by decide +kernel)]; exact ⟨rfl, rfl⟩))
    (fun os started H enc _ => lifted os started H enc)
end Go.Proofs.Ytbgibmngijomfaa.fnExactEventLessRow
namespace Go.Proofs.Ytbgibmngijomfaa
/-- The row, under a short name, for the claim. -/
theorem fnExactEventLess_holds : Rows.FnExactEventLessSaid := fnExactEventLessRow.over
#print axioms fnExactEventLess_holds
end Go.Proofs.Ytbgibmngijomfaa
