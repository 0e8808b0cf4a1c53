/- The events that are drawn are small. -/
import Derived.Test.YtbgibmngijomfaaDrawPlFnEventSort
import Derived.Test.YtbgibmngijomfaaEventPlFnEventSort
set_option linter.unusedVariables false
set_option linter.unusedSimpArgs false
namespace Go.Proofs.Ytbgibmngijomfaa.SFnEventSort
open Go Go.Sx Go.Pl
def Sm (v : Int) : Prop := -1 ≤ v ∧ v ≤ 2000
def SmallE (x : Ev7) : Prop := Sm x.1 ∧ Sm x.2.1 ∧ Sm x.2.2.1 ∧ Sm x.2.2.2.1 ∧ Sm x.2.2.2.2.1 ∧ Sm x.2.2.2.2.2.1 ∧ Sm x.2.2.2.2.2.2

theorem sm_wf {v : Int} (h : Sm v) : (Lit.int .i64 v).wf = true := by
  obtain ⟨h1, h2⟩ := h
  simp [Lit.wf, IntKind.min, IntKind.max, IntKind.signed, IntKind.bits]
  omega

theorem small_wf {x : Ev7} (h : SmallE x) : WfE x := ⟨sm_wf h.1, sm_wf h.2.1, sm_wf h.2.2.1, sm_wf h.2.2.2.1, sm_wf h.2.2.2.2.1, sm_wf h.2.2.2.2.2.1, sm_wf h.2.2.2.2.2.2⟩

theorem sm_getD {l : List Int} (hl : ∀ y ∈ l, Sm y) (n : Nat) : Sm (l.getD n (0 : Int)) := by
  rw [List.getD_eq_getElem?_getD]
  cases h : l[n]? with
  | none => exact ⟨by decide, by decide⟩
  | some x => exact hl x (List.mem_of_getElem? h)

theorem small_getD {l : List Ev7} (hl : ∀ y ∈ l, SmallE y) (n : Nat) : SmallE (l.getD n dE) := by
  rw [List.getD_eq_getElem?_getD]
  cases h : l[n]? with
  | none =>
    have z : Sm 0 := ⟨by decide, by decide⟩
    exact ⟨z, z, z, z, z, z, z⟩
  | some x => exact hl x (List.mem_of_getElem? h)

theorem l72EventSm {r : List Int × Int} {m : Nat} (hr : RdOk r m) (hm : m < 100000000) :
    Ok (fun k => spec_l72Event_h0 k r) (fun b => SmallE b.1 ∧ RdOk (b.2.1.1, b.2.1.2.1) (m + 9)) := by
  have up : ∀ {r : List Int × Int} {i j : Nat}, i ≤ j → RdOk r i → RdOk r j := fun hij h => ⟨h.1, h.2.1, h.2.2.1, by have := h.2.2.2; omega⟩
  have sm : ∀ {n v : Int}, 0 ≤ v ∧ (1 ≤ n → v < n) → 1 ≤ n → n ≤ 2000 → Sm v := fun h h1 h2 => ⟨by have := h.1; omega, by have := h.2 h1; omega⟩
  have L1 : ∀ n : Nat, Sm (([-1, 40, 41] : List Int).getD n (0 : Int)) := sm_getD (by intro y hy; simp at hy; unfold Sm; omega)
  have L2 : ∀ n : Nat, Sm (([-1, 4] : List Int).getD n (0 : Int)) := sm_getD (by intro y hy; simp at hy; unfold Sm; omega)
  have L3 : ∀ n : Nat, Sm (([-1, 999, 1000] : List Int).getD n (0 : Int)) := sm_getD (by intro y hy; simp at hy; unfold Sm; omega)
  refine Ok.step (fun k => spec_l72Event_h0_eq k r) ?_
  refine Ok.bind (pickOk hr (by omega) (by omega)) fun x0 h0 => ?_
  refine Ok.bind (pickOk h0.2.2 (by omega) (by omega)) fun x1 h1 => ?_
  refine Ok.bind (pickOk h1.2.2 (by omega) (by omega)) fun x2 h2 => ?_
  refine Ok.bind (pickOk h2.2.2 (by omega) (by omega)) fun x3 h3 => ?_
  refine Ok.bind (pickOk h3.2.2 (by omega) (by omega)) fun x4 h4 => ?_
  refine Ok.bind (pickOk h4.2.2 (by omega) (by omega)) fun x5 h5 => ?_
  refine Ok.bind (pickOk h5.2.2 (by omega) (by omega)) fun x6 h6 => ?_
  refine Ok.bind (pickOk h6.2.2 (by omega) (by omega)) fun x7 h7 => ?_
  have s0 : Sm x0.1 := sm ⟨h0.1, h0.2.1⟩ (by omega) (by omega)
  have s1 : Sm x1.1 := sm ⟨h1.1, h1.2.1⟩ (by omega) (by omega)
  have s2 : Sm (IntKind.i64.wrap (x2.1 - 1)) := by
    have a1 : @LE.le Int _ 0 x2.1 := h2.1
    have a2 : @LT.lt Int _ x2.1 5 := h2.2.1 (by omega)
    have w : ∀ v : Int, 0 ≤ v → v < 5 → Sm (IntKind.i64.wrap (v - 1)) := fun v a1 a2 => by
      rw [w64 (by omega) (by omega)]
      exact ⟨by omega, by omega⟩
    exact w _ a1 a2
  have s3 : Sm x3.1 := sm ⟨h3.1, h3.2.1⟩ (by omega) (by omega)
  have s4 : Sm x4.1 := sm ⟨h4.1, h4.2.1⟩ (by omega) (by omega)
  have s5 : Sm x5.1 := sm ⟨h5.1, h5.2.1⟩ (by omega) (by omega)
  have s6 : Sm x6.1 := sm ⟨h6.1, h6.2.1⟩ (by omega) (by omega)
  refine Ok.cond (fun _ => ?_) fun _ => ?_
  · refine Ok.bind (pickOk h7.2.2 (by omega) (by omega)) fun x8 h8 => ?_
    have := h8.2.1 (by omega)
    exact Ok.chk h8.1 (Ok.chk (by simp; omega) (Ok.chk (by simp; omega) (Ok.some ⟨⟨L1 _, s1, s2, s3, s4, s5, s6⟩, h8.2.2⟩)))
  refine Ok.cond (fun _ => ?_) fun _ => ?_
  · refine Ok.bind (pickOk h7.2.2 (by omega) (by omega)) fun x8 h8 => ?_
    have := h8.2.1 (by omega)
    exact Ok.chk h8.1 (Ok.chk (by simp; omega) (Ok.chk (by simp; omega) (Ok.some ⟨⟨s0, L2 _, s2, s3, s4, s5, s6⟩, h8.2.2⟩)))
  refine Ok.cond (fun _ => ?_) fun _ => ?_
  · refine Ok.bind (pickOk h7.2.2 (by omega) (by omega)) fun x8 h8 => ?_
    have := h8.2.1 (by omega)
    exact Ok.chk h8.1 (Ok.chk (by simp; omega) (Ok.chk (by simp; omega) (Ok.some ⟨⟨s0, s1, s2, s3, s4, s5, L3 _⟩, h8.2.2⟩)))
  · exact Ok.some ⟨⟨s0, s1, s2, s3, s4, s5, s6⟩, up (by omega) h7.2.2⟩

theorem rdUpE {r : List Int × Int} {i j : Nat} (h : RdOk r i) (hij : i ≤ j) : RdOk r j := ⟨h.1, h.2.1, h.2.2.1, by have := h.2.2.2; omega⟩

theorem smAdd {l : List Ev7} {x : Ev7} (h : ∀ y ∈ l, SmallE y) (hx : SmallE x) : ∀ y ∈ l ++ [x], SmallE y := by
  intro y hy
  rcases List.mem_append.1 hy with hy | hy
  · exact h y hy
  · simp only [List.mem_singleton] at hy; subst hy; exact hx

theorem eventsLoopSm (n : Nat) : ∀ (r : List Int × Int) (m : Nat) (out : List Ev7), RdOk r m → m + 12 * n < 10000000 → out.length + n ≤ 1000 → (∀ y ∈ out, SmallE y) →
    OkL (fun k j => spec_l72Events_h0_3 k j (n : Int) r out) (fun b => b.1.length ≤ 1000 ∧ (∀ y ∈ b.1, SmallE y) ∧ RdOk (b.2.1.1, b.2.1.2.1) (m + 12 * n)) := by
  induction n with
  | zero =>
    intro r m out hr hm ho hs
    exact OkL.step (fun k j => spec_l72Events_h0_3_eq k j ((0 : Nat) : Int) r out) (OkL.cond (fun h => by simp at h) fun _ => OkL.some ⟨by show out.length ≤ 1000; omega, hs, hr⟩)
  | succ n ih =>
    intro r m out hr hm ho hs
    have e : IntKind.i64.wrap (((n + 1 : Nat) : Int) - 1) = (n : Int) := by rw [w64 (by omega) (by omega)]; omega
    refine OkL.step (fun k j => spec_l72Events_h0_3_eq k j ((n + 1 : Nat) : Int) r out) (OkL.cond (fun _ => ?_) fun h => absurd (of_decide_eq_false h) (by omega))
    rw [e]
    refine OkL.bind (l72EventSm hr (by omega)) fun x hx2 => ?_
    obtain ⟨hxs, hx⟩ := hx2
    refine OkL.cond (fun hl => ?_) fun _ => ?_
    · have hl : (out.length : Int) > 0 := of_decide_eq_true hl
      refine OkL.bind (pickOk hx (by omega) (by omega)) fun y hy => OkL.cond (fun _ => ?_) fun _ => ?_
      · refine OkL.bind (pickOk hy.2.2 (by omega) (by omega)) fun z hz => ?_
        have hz1 : @LT.lt Int _ z.1 (out.length : Int) := hz.2.1 (by omega)
        have hz0 : @LE.le Int _ 0 z.1 := hz.1
        refine OkL.chk hz0 (OkL.chk hz1 (OkL.chk (by omega) ?_))
        refine OkL.bind (pickOk hz.2.2 (by omega) (by omega)) fun u hu => OkL.chk (by simp only [List.length_singleton]; omega) ?_
        have g := small_getD hs (Int.toNat z.1)
        have hu4 : Sm u.1 := by
          have a1 : @LE.le Int _ 0 u.1 := hu.1
          have a2 : @LT.lt Int _ u.1 3 := hu.2.1 (by omega)
          have w : ∀ v : Int, 0 ≤ v → v < 3 → Sm v := fun v a1 a2 => ⟨by omega, by omega⟩
          exact w _ a1 a2
        exact (ih _ (m + 12) _ (rdUpE hu.2.2 (by omega)) (by omega) (by simp <;> omega) (smAdd (x := ((out.getD (Int.toNat z.1) dE).1, (out.getD (Int.toNat z.1) dE).2.1, (out.getD (Int.toNat z.1) dE).2.2.1, (out.getD (Int.toNat z.1) dE).2.2.2.1, u.1, (out.getD (Int.toNat z.1) dE).2.2.2.2.2.1, (out.getD (Int.toNat z.1) dE).2.2.2.2.2.2)) hs ⟨g.1, g.2.1, g.2.2.1, g.2.2.2.1, hu4, g.2.2.2.2.2.1, g.2.2.2.2.2.2⟩)).imp fun b hb => ⟨hb.1, hb.2.1, rdUpE hb.2.2 (by omega)⟩
      · refine OkL.chk (by simp only [List.length_singleton]; omega) ?_
        exact (ih _ (m + 12) _ (rdUpE hy.2.2 (by omega)) (by omega) (by simp <;> omega) (smAdd hs hxs)).imp fun b hb => ⟨hb.1, hb.2.1, rdUpE hb.2.2 (by omega)⟩
    · refine OkL.chk (by simp only [List.length_singleton]; omega) ?_
      exact (ih _ (m + 12) _ (rdUpE hx (by omega)) (by omega) (by simp <;> omega) (smAdd hs hxs)).imp fun b hb => ⟨hb.1, hb.2.1, rdUpE hb.2.2 (by omega)⟩

theorem l72EventsSm (most : Int) (hm1 : 1 ≤ most) (hmost : most ≤ 900) {r : List Int × Int} {m : Nat} (hr : RdOk r m) (hm : m < 100000) :
    Ok (fun k => spec_l72Events_h0 k most r) (fun b => b.1.length ≤ 1000 ∧ (∀ y ∈ b.1, SmallE y) ∧ RdOk (b.2.1.1, b.2.1.2.1) (m + 20000)) := by
  refine Ok.step (fun k => spec_l72Events_h0_eq k most r) (Ok.bind (pickOk hr (by omega) (by omega)) fun x hx => ?_)
  have h1 := hx.2.1
  have h0 : @LE.le Int _ 0 x.1 := hx.1
  have hx0 := hx.2.2
  obtain ⟨n, hn⟩ : ∃ n : Nat, x.1 = (n : Int) := ⟨Int.toNat x.1, (Int.toNat_of_nonneg h0).symm⟩
  have h2 : @LT.lt Int _ x.1 most := h1 hm1
  have h4 : n < 900 := by rw [hn] at h2; omega
  rw [hn]
  exact Ok.imp (eventsLoopSm n _ (m + 1) [] hx0 (by omega) (by simp <;> omega) (by simp)).ok fun b hb => ⟨hb.1, hb.2.1, rdUpE hb.2.2 (by omega)⟩

theorem drawEventSortSm (a : List Int) (ha : ∀ x ∈ a, 0 ≤ x ∧ x ≤ 255) : Ok (fun k => spec_DrawEventSort k a) (fun b => b.length ≤ 1000 ∧ ∀ y ∈ b, SmallE y) :=
  Ok.step (fun k => spec_DrawEventSort_eq k a) (Ok.bind (openOk a ha) fun x0 h0 => Ok.bind (l72EventsSm 14 (by omega) (by omega) h0 (by omega)) fun x1 h1 => Ok.some ⟨h1.1, h1.2.1⟩)
end Go.Proofs.Ytbgibmngijomfaa.SFnEventSort
