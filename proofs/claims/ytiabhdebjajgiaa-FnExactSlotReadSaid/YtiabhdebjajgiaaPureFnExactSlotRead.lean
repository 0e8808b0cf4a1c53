/- Proved: at every disk the program's SlotRead answers as the reference's; it writes into no argument, and its answer owns its memory. No condition. -/
import Derived.Test.YtiabhdebjajgiaaSlotPlFnExactSlotRead
import Derived.Test.YtiabhdebjajgiaaMarkIPlFnExactSlotRead
set_option linter.unusedVariables false
namespace Go.Proofs.Ytiabhdebjajgiaa.SFnExactSlotRead
open Go Go.Sx Go.Pl
theorem yes {g f : Nat → Option Bool} (hg : Ev g true) (hf : Ev f true) : Ev (fun k => (g k).bind fun x => cond (!x) (some false) (f k)) true := Ev.bind hg hf
theorem goodDk (d : Dk) (hg : Go.Sx.Good t_laws_SlotDisk d) : LongDk d := by
  have hw : ∀ l : List (List Int), Go.Sx.Good t_sl_sl_int l → LongSs l := fun l ⟨h1, h2⟩ => ⟨h1, fun y hy => (h2 y hy).1⟩
  exact ⟨hw _ hg.1.2.2, hw _ hg.2.2.2⟩
end Go.Proofs.Ytiabhdebjajgiaa.SFnExactSlotRead
namespace Go.Proofs.Ytiabhdebjajgiaa.Pure
open Go Go.Sx Go.Pl Go.Proofs.Ytiabhdebjajgiaa.SFnExactSlotRead
theorem FnExactSlotRead : Goal := by
  intro d hg
  refine Ev.ex (r := true) ?_
  refine Ev.step (fun k => laws_FnExactSlotRead_eq k d) ?_
  obtain ⟨r, hr, hr2⟩ := szDisk_W d 1048576 (by decide) (by decide) (goodDk d hg)
  refine Ev.bind hr (Ev.cond (fun _ => Ev.now _) fun h0 => ?_)
  have h0 : ¬ r < 0 := by simpa using h0
  have hw := hr2 (by omega)
  have hs : SmallDk d := by
    unfold wDk at hw
    exact ⟨small_of _ (by omega), small_of _ (by omega)⟩
  have ht := toDisk d hs
  have hl := readM_len d
  have he : Ev (fun k => laws_eqIntS k (readM d).1 (readM d).1) true := eqIntV _ hl
  have same : ∀ {f : Nat → Option Bool}, Ev f true → Ev (fun k => cond (!(readM d).2 == (readM d).2) (some false) (f k)) true := fun hf => by
    rw [beq_self_eq_true]
    exact hf
  refine Ev.bind ht (Ev.bind (specRead d hs) (Ev.bind ht (Ev.bind (implRead d hs) (yes he (same (Ev.bind ht (yes (eqDisk d hs) ?_)))))))
  refine mark_dk (by omega) false (yes he (same (Ev.bind (markNS 1 (by decide) (by decide) _ hl) ?_)))
  exact heldN_ev hl (Ev.bind ht (Ev.bind (implRead d hs) (yes he (same (heldN_ev hl (Ev.now _))))))
end Go.Proofs.Ytiabhdebjajgiaa.Pure
