/- Proved: for all numbers that are drawn, what a save to a new disk wrote reads back, a new disk reads nothing, and the disk is right after. No condition of ours. -/
import Derived.Test.YtiabhdebjajgiaaSlotRunPlFnSlotBack
import Derived.Test.YtiabhdebjajgiaaSlotDrawPlFnSlotBack
set_option linter.unusedVariables false
set_option linter.unusedSimpArgs false
namespace Go.Proofs.Ytiabhdebjajgiaa.Pure
open Go Go.Sx Go.Pl Go.Proofs.Ytiabhdebjajgiaa.SFnSlotBack
theorem u8 {x : Int} (h : Go.Sx.Good t_uint8 x) : 0 ≤ x ∧ x ≤ 255 := by
  have h : (Lit.int .u8 x).wf = true := h
  simp [Lit.wf, IntKind.min, IntKind.max, IntKind.signed, IntKind.bits] at h
  omega
theorem same (b : Bool) : (!(b == b)) = false := by cases b <;> rfl
theorem same' (b : Bool) : (b == b) = true := by cases b <;> rfl
theorem implNewD : Ev (fun k => impl_SlotNew k) newD := Ev.step (fun k => impl_SlotNew_eq k) ((Ev.now _).to rfl)
theorem newD_small : SmallDk newD := disk_small newD_ok
theorem read_new : readM newD = ([], false) := by
  unfold readM
  rw [if_pos newD_ok]
  rfl
theorem law (a : List Int) (ha : ∀ x ∈ a, 0 ≤ x ∧ x ≤ 255) : Ev (fun k => laws_FnSlotBack k a) true := by
  refine Ev.step (fun k => laws_FnSlotBack_eq k a) (Ev.cond (fun _ => Ev.now _) fun _ => ?_)
  obtain ⟨⟨d, ns⟩, h0, hs, hn⟩ := drawSave a ha
  have hn : ns.length ≤ 2000 := hn
  have hs : SmallDk d := hs
  refine Ev.bind h0 ?_
  refine Ev.bind specNewD ?_
  refine Ev.bind (specSave newD newD_small ns (by omega)) (Ev.bind (implSave newD ns) ?_)
  obtain ⟨s1, s2, s3⟩ := saveM_small newD ns
  refine Ev.cond (fun h => absurd h (by rw [same]; decide)) fun _ => ?_
  have hnew := ltDk newD newD_small
  refine Ev.bind implNewD (Ev.bind hnew (Ev.cond (fun h => by cases h) fun _ => ?_))
  refine Ev.cond (fun _ => ?_) fun h => ?_
  · exact Ev.cond (fun _ => Ev.bind implNewD (Ev.bind hnew (Ev.now _))) fun h => absurd h (by rw [same']; decide)
  have hc := can_of (by simpa using h)
  have ra := read_all hc
  refine Ev.bind (implSlotDo newD newD_small _ s1 _) ?_
  have hsm := (slotDoM_small newD (saveM newD ns).1 ((saveM newD ns).1.length : Int)).1
  have hok : diskM (slotDoM newD (saveM newD ns).1 ((saveM newD ns).1.length : Int)) = true := doM_disk newD_ok _ _
  refine Ev.bind (implRead _ hsm) (Ev.bind (implRead newD newD_small) ?_)
  rw [ra, read_new]
  simp only [cond_true]
  refine Ev.bind (ltIntV ns (by omega)) ?_
  simp only [cond_true, Bool.not_false, List.length_nil]
  exact Ev.cond (fun _ => Ev.bind (implDisk _ hsm) ((Ev.now _).to hok)) fun h => by cases h
theorem FnSlotBack : Goal := fun a ha => (law a (fun x hx => u8 (ha.2 x hx))).ex
end Go.Proofs.Ytiabhdebjajgiaa.Pure
