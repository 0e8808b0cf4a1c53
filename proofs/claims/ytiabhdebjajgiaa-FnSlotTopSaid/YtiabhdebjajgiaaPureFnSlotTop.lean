/- Proved: at every disk and all numbers that are drawn, a save broken off anywhere leaves what was read before, and a whole one gives the new numbers. No condition of ours. -/
import Derived.Test.YtiabhdebjajgiaaSlotRunPlFnSlotTop
import Derived.Test.YtiabhdebjajgiaaSlotDrawPlFnSlotTop
set_option linter.unusedVariables false
set_option linter.unusedSimpArgs false
namespace Go.Proofs.Ytiabhdebjajgiaa.Pure
open Go Go.Sx Go.Pl Go.Proofs.Ytiabhdebjajgiaa.SFnSlotTop
theorem u8 {x : Int} (h : Go.Sx.Good t_uint8 x) : 0 ≤ x ∧ x ≤ 255 := by
  have h : (Lit.int .u8 x).wf = true := h
  simp [Lit.wf, IntKind.min, IntKind.max, IntKind.signed, IntKind.bits] at h
  omega
theorem same (b : Bool) : (!(b == b)) = false := by cases b <;> rfl
theorem same' (b : Bool) : (b == b) = true := by cases b <;> rfl
theorem slot_count {s : Sl} (h : slotM s = true) : s.2.1 ≤ 1280 := by
  unfold slotM inB at h
  simp only [Bool.and_eq_true, decide_eq_true_eq] at h
  exact h.2.2.2.2
theorem law (a : List Int) (ha : ∀ x ∈ a, 0 ≤ x ∧ x ≤ 255) : Ev (fun k => laws_FnSlotTop k a) true := by
  refine Ev.step (fun k => laws_FnSlotTop_eq k a) (Ev.cond (fun _ => Ev.now _) fun _ => ?_)
  obtain ⟨⟨d, ns⟩, h0, hs, hn⟩ := drawSave a ha
  have hn : ns.length ≤ 2000 := hn
  have hs : SmallDk d := hs
  refine Ev.bind h0 ?_
  refine Ev.bind (specSave d hs ns (by omega)) (Ev.bind (implSave d ns) ?_)
  obtain ⟨s1, s2, s3⟩ := saveM_small d ns
  refine Ev.cond (fun h => absurd h (by rw [same]; decide)) fun _ => ?_
  refine Ev.bind (ltSts _ s1) (Ev.cond (fun h => by cases h) fun _ => ?_)
  refine Ev.bind (implDisk d hs) (Ev.bind (specDisk d hs) (Ev.cond (fun h => absurd h (by rw [same]; decide)) fun _ => ?_))
  refine Ev.bind (implRead d hs) (Ev.cond (fun _ => Ev.now _) fun h => ?_)
  have hc := can_of (by simpa using h)
  have ra := read_all hc
  have rp := read_part hc
  have hr2 := readM_len d
  have hlen : (readM d).1.length ≤ 1048576 := by
    unfold readM
    split
    · rename_i hd
      split
      · exact Nat.zero_le _
      · split
        · exact Nat.zero_le _
        · show (List.take _ _).length ≤ _
          rw [List.length_take]
          have := slot_count (can_slots hc).1
          omega
    · exact Nat.zero_le _
  generalize (saveM d ns).1 = l at *
  refine EvL.ev (L := fun k j => laws_FnSlotTop_12 k j ns (readM d).2 0 d l (readM d).1) ?_
  refine loop_up (fun k j i => laws_FnSlotTop_12 k j ns (readM d).2 (i : Int) d l (readM d).1) (l.length + 1) (fun _ => true) ?_ (fun i hi hr => ?_) 0 (by omega)
  · refine EvL.step (M := fun _ _ => some true) (fun k j => ?_) (EvL.now _)
    rw [laws_FnSlotTop_12_eq, decide_eq_false (by omega), cond_false]
  · have c1 : (i : Int) ≤ (l.length : Int) := by omega
    refine EvL.step (fun k j => laws_FnSlotTop_12_eq k j ns (readM d).2 (i : Int) d l (readM d).1) ?_
    simp only [decide_eq_true c1, cond_true]
    refine EvL.bind (implSlotDo d hs l s1 (i : Int)) ?_
    refine EvL.bind (implRead _ (slotDoM_small d l (i : Int)).1) ?_
    by_cases h2 : i = l.length
    · subst h2
      rw [ra]
      simp only [beq_self_eq_true, cond_true, Bool.not_true, cond_false]
      refine EvL.bind (ltIntV ns (by omega)) ?_
      simp only [Bool.not_true, cond_false, decide_eq_false (show ¬ (l.length : Int) < (l.length : Int) by omega), w64n l.length (by omega)]
      exact hr
    · have c3 : ((i : Int) == (l.length : Int)) = false := by rw [beq_eq_false_iff_ne]; omega
      have c4 : (i : Int) < (l.length : Int) := by omega
      rw [rp i (by omega), c3, decide_eq_true c4, same]
      simp only [cond_true, cond_false]
      refine EvL.bind (ltIntV _ hlen) ?_
      simp only [Bool.not_true, cond_false, w64n i (by omega)]
      exact hr
theorem FnSlotTop : Goal := fun a ha => (law a (fun x hx => u8 (ha.2 x hx))).ex
end Go.Proofs.Ytiabhdebjajgiaa.Pure
