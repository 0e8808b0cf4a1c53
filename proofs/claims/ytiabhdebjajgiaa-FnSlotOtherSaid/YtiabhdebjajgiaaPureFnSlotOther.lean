/- Proved: at every disk and all numbers that are drawn, what a save writes goes to the slot that is not the later one, and the later one stands as it was. No condition of ours. -/
import Derived.Test.YtiabhdebjajgiaaSlotRunPlFnSlotOther
import Derived.Test.YtiabhdebjajgiaaSlotDrawPlFnSlotOther
set_option linter.unusedVariables false
set_option linter.unusedSimpArgs false
namespace Go.Proofs.Ytiabhdebjajgiaa.Pure
open Go Go.Sx Go.Pl Go.Proofs.Ytiabhdebjajgiaa.SFnSlotOther
theorem u8 {x : Int} (h : Go.Sx.Good t_uint8 x) : 0 ≤ x ∧ x ≤ 255 := by
  have h : (Lit.int .u8 x).wf = true := h
  simp [Lit.wf, IntKind.min, IntKind.max, IntKind.signed, IntKind.bits] at h
  omega
theorem same (b : Bool) : (!(b == b)) = false := by cases b <;> rfl
theorem same' (b : Bool) : (b == b) = true := by cases b <;> rfl
theorem keys_side (sec : Bool) (num : Int) (ns : List Int) : ∀ e ∈ keysOf sec num ns, e.1 = sec := by
  intro e he
  unfold keysOf at he
  rcases List.mem_append.1 he with he | he
  · unfold keysTo at he
    rcases List.mem_cons.1 he with rfl | he
    · rfl
    · rw [List.mem_mapIdx] at he
      obtain ⟨i, hi, rfl⟩ := he
      rfl
  · obtain rfl : e = _ := by simpa using he
    rfl
theorem sec_not (d : Dk) : decide (d.2.1 > d.1.1) = !secOf d := by
  unfold secOf
  by_cases h : d.2.1 > d.1.1
  · rw [decide_eq_true h, decide_eq_false (by omega)]; rfl
  · rw [decide_eq_false h, decide_eq_true (by omega)]; rfl
theorem law (a : List Int) (ha : ∀ x ∈ a, 0 ≤ x ∧ x ≤ 255) : Ev (fun k => laws_FnSlotOther k a) true := by
  refine Ev.step (fun k => laws_FnSlotOther_eq k a) (Ev.cond (fun _ => Ev.now _) fun _ => ?_)
  obtain ⟨⟨d, ns⟩, h0, hs, hn⟩ := drawSave a ha
  have hn : ns.length ≤ 2000 := hn
  have hs : SmallDk d := hs
  refine Ev.bind h0 ?_
  refine Ev.bind (specSave d hs ns (by omega)) (Ev.bind (implSave d ns) ?_)
  obtain ⟨s1, s2, s3⟩ := saveM_small d ns
  refine Ev.cond (fun h => absurd h (by rw [same]; decide)) fun _ => ?_
  refine Ev.bind (ltSts _ s1) (Ev.cond (fun h => by cases h) fun _ => Ev.cond (fun _ => (Ev.now _).to (same' _)) fun h => ?_)
  have hc := can_of (by simpa using h)
  have hall : ∀ e ∈ (saveM d ns).1, e.1 = secOf d := by rw [save_eq hc]; exact keys_side _ _ _
  have hdo := do_all hc
  generalize (saveM d ns).1 = l at *
  refine EvL.ev (L := fun k j => laws_FnSlotOther_9 k j 0 d l) ?_
  refine loop_up (fun k j i => laws_FnSlotOther_9 k j (i : Int) d l) l.length (fun _ => true) ?_ (fun i hi hr => ?_) 0 (by omega)
  · refine EvL.step (fun k j => laws_FnSlotOther_9_eq k j (l.length : Int) d l) ?_
    rw [decide_eq_false (show ¬ (l.length : Int) < (l.length : Int) by omega)]
    simp only [cond_false]
    refine EvL.bind (implSlotDo d hs l s1 (l.length : Int)) ?_
    rw [hdo, later_eq]
    have hsd := sec_not d
    rw [hsd]
    cases hz : secOf d with
    | true =>
      show EvL (fun k j => (laws_ltSlot k d.1 d.1).bind fun x1 => some x1) true
      exact EvL.bind (ltSl _ hs.1) (EvL.now _)
    | false =>
      show EvL (fun k j => (laws_ltSlot k d.2 d.2).bind fun x1 => some x1) true
      exact EvL.bind (ltSl _ hs.2) (EvL.now _)
  · have c1 : (i : Int) < (l.length : Int) := by omega
    have c2 : (0 : Int) ≤ (i : Int) := by omega
    refine EvL.step (fun k j => laws_FnSlotOther_9_eq k j (i : Int) d l) ?_
    have hx : ((l.getD i (dflt t_impl_SlotStep)).1 == decide (d.2.1 > d.1.1)) = false := by
      have h1 := hall _ (getD_mem l (dflt t_impl_SlotStep) i hi)
      have h2 := sec_not d
      rw [h1, h2]
      cases secOf d <;> rfl
    simp only [decide_eq_true c1, decide_eq_true c2, cond_true, Int.toNat_natCast, w64n i (by omega), decide_eq_true hi]
    rw [hx]
    exact hr
theorem FnSlotOther : Goal := fun a ha => (law a (fun x hx => u8 (ha.2 x hx))).ex
end Go.Proofs.Ytiabhdebjajgiaa.Pure
