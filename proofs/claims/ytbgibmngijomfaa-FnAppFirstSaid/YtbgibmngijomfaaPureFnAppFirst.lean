/- Proved: at every code the drawn number's first event is the reference's, and that of a process begins at the time 0. No condition. -/
import Derived.Test.YtbgibmngijomfaaGFnAppFirst
import Derived.Test.YtbgibmngijomfaaFnAppFirstPick
namespace Go.Proofs.Ytbgibmngijomfaa.Pure
open Go.RowKit Go.Proofs.Ytbgibmngijomfaa.PFnAppFirst Go.Proofs.YtbgibmngijomfaaW.PrintWords Go.Proofs.YtbgibmngijomfaaW.PrintLast

theorem FnAppFirst : laws_FnAppFirst.Goal := by
  intro l hg
  have hw := hg.2
  refine ⟨1, ?_⟩
  unfold laws_FnAppFirst.f
  by_cases hl : (l.length : Int) > 1048576
  · rw [if_pos hl]
  rw [if_neg hl]
  obtain ⟨v, hv, h0, h1⟩ := pick_ok 0 (l.take 2000) 0 7 (by simp; omega) (bytes_of_wf l hw) (by omega) (by omega)
  unfold spec_DrawAppFirst.f
  rw [open_ok]
  simp only [Option.bind_some]
  rw [hv]
  simp only [Option.bind_some]
  have hw1 : wrap64 (v - 1) = v - 1 := by have := h1 (by omega); unfold wrap64; omega
  rw [hw1]
  generalize v - 1 = p
  unfold spec_AppFirst.f impl_AppFirst.f spec_l1Proc.f impl_isProc.f spec_l6In.f impl_within.f
  by_cases h0 : p ≥ 0
  · by_cases h3 : p ≤ 3
    · have a1 : ¬ p < 0 := by omega
      have a2 : ¬ p ≥ 4 := by omega
      simp [h0, h3]
    · have a2 : p ≥ 4 := by omega
      simp [h0, h3, a2]
  · have a1 : p < 0 := by omega
    simp [h0, a1]

end Go.Proofs.Ytbgibmngijomfaa.Pure
