/- Proved: at two drawn disks, a save on a disk that a broken-off save left gives what was saved, or is refused as by the reference. No condition of ours. -/
import Derived.Test.YtiabhdebjajgiaaSlotRunPlFnSlotTwice
import Derived.Test.YtiabhdebjajgiaaSlotDrawPlFnSlotTwice
set_option linter.unusedVariables false
set_option linter.unusedSimpArgs false
namespace Go.Proofs.Ytiabhdebjajgiaa.Pure
open Go Go.Sx Go.Pl Go.Proofs.Ytiabhdebjajgiaa.SFnSlotTwice
theorem u8 {x : Int} (h : Go.Sx.Good t_uint8 x) : 0 ≤ x ∧ x ≤ 255 := by
  have h : (Lit.int .u8 x).wf = true := h
  simp [Lit.wf, IntKind.min, IntKind.max, IntKind.signed, IntKind.bits] at h
  omega
theorem same (b : Bool) : (!(b == b)) = false := by cases b <;> rfl
theorem same' (b : Bool) : (b == b) = true := by cases b <;> rfl
theorem law (a b : List Int) (ha : ∀ x ∈ a, 0 ≤ x ∧ x ≤ 255) (hb : ∀ x ∈ b, 0 ≤ x ∧ x ≤ 255) : Ev (fun k => laws_FnSlotTwice k a b) true := by
  refine Ev.step (fun k => laws_FnSlotTwice_eq k a b) (Ev.cond (fun _ => Ev.now _) fun _ => Ev.cond (fun _ => Ev.now _) fun _ => ?_)
  obtain ⟨⟨d, ns⟩, h0, hs, hn⟩ := drawSave a ha
  obtain ⟨⟨e, ms⟩, h1, he, hm⟩ := drawSave b hb
  have hn : ns.length ≤ 2000 := hn
  have hm : ms.length ≤ 2000 := hm
  have hs : SmallDk d := hs
  refine Ev.bind h0 (Ev.bind h1 ?_)
  refine Ev.bind (specSave d hs ns (by omega)) (Ev.bind (implSave d ns) ?_)
  obtain ⟨s1, s2, s3⟩ := saveM_small d ns
  refine Ev.cond (fun h => absurd h (by rw [same]; decide)) fun _ => ?_
  refine Ev.cond (fun _ => (Ev.now _).to (same' _)) fun h => ?_
  rw [w64n (saveM d ns).1.length (by omega)]
  refine Ev.cond (fun _ => ?_) fun h => by
    have : ¬ (((saveM d ns).1.length + 1 : Nat) : Int) = 0 := by omega
    rw [decide_eq_false this] at h
    cases h
  refine Ev.bind (implSlotDo d hs _ s1 _) ?_
  have hsm := (slotDoM_small d (saveM d ns).1 ((b.length : Int).tmod (((saveM d ns).1.length + 1 : Nat) : Int))).1
  generalize slotDoM d (saveM d ns).1 ((b.length : Int).tmod (((saveM d ns).1.length + 1 : Nat) : Int)) = x at *
  obtain ⟨q1, q2, q3⟩ := saveM_small x ms
  refine Ev.bind (implSave x ms) (Ev.cond (fun h => ?_) fun h => ?_)
  · exact Ev.bind (specSave x hsm ms (by omega)) ((Ev.now _).to h)
  have hc := can_of (by simpa using h)
  have ra := read_all hc
  refine Ev.bind (implSlotDo x hsm _ q1 _) ?_
  refine Ev.bind (implRead _ (slotDoM_small x (saveM x ms).1 ((saveM x ms).1.length : Int)).1) ?_
  rw [ra]
  simp only [cond_true]
  exact Ev.bind (ltIntV ms (by omega)) (Ev.now _)
theorem FnSlotTwice : Goal := fun a b ha hb => (law a b (fun x hx => u8 (ha.2 x hx)) (fun x hx => u8 (hb.2 x hx))).ex
end Go.Proofs.Ytiabhdebjajgiaa.Pure
