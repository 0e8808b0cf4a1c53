/- Proved: at every disk and all numbers the program's SlotSave answers as the reference's; it writes into no argument, and its answer owns its memory. No condition. -/
import Derived.Test.YtiabhdebjajgiaaSlotSavePlFnExactSlotSave
set_option linter.unusedVariables false
namespace Go.Proofs.Ytiabhdebjajgiaa.SFnExactSlotSave
open Go Go.Sx Go.Pl
theorem yes {g f : Nat → Option Bool} (hg : Ev g true) (hf : Ev f true) : Ev (fun k => (g k).bind fun x => cond (!x) (some false) (f k)) true := Ev.bind hg hf
theorem nonneg {g : Nat → Option Int} {r : Int} {f : Nat → Int → Option Bool} (hg : Ev g r) (h0 : 0 ≤ r) (hf : Ev (fun k => f k r) true) : Ev (fun k => (g k).bind fun x => cond (decide (x < 0)) (some false) (f k x)) true := by
  refine Ev.bind hg ?_
  have h1 : ¬ (r < 0) := by omega
  simp only [decide_eq_false h1, cond_false]
  exact hf
theorem goodDk (d : Dk) (hg : Go.Sx.Good t_laws_SlotDisk d) : LongDk d := by
  have hw : ∀ l : List (List Int), Go.Sx.Good t_sl_sl_int l → LongSs l := fun l ⟨h1, h2⟩ => ⟨h1, fun y hy => (h2 y hy).1⟩
  exact ⟨hw _ hg.1.2.2, hw _ hg.2.2.2⟩
end Go.Proofs.Ytiabhdebjajgiaa.SFnExactSlotSave
namespace Go.Proofs.Ytiabhdebjajgiaa.Pure
open Go Go.Sx Go.Pl Go.Proofs.Ytiabhdebjajgiaa.SFnExactSlotSave
theorem FnExactSlotSave : Goal := by
  intro d ns hgd hgn
  refine Ev.ex (r := true) ?_
  refine Ev.step (fun k => laws_FnExactSlotSave_eq k d ns) (Ev.cond (fun _ => Ev.now _) fun hn => ?_)
  have hn : ns.length ≤ 1048576 := by have := of_decide_eq_false hn; omega
  obtain ⟨r, hr, hr2⟩ := szDisk_W d 1048576 (by decide) (by decide) (goodDk d hgd)
  refine Ev.bind hr (Ev.cond (fun _ => Ev.now _) fun h0 => ?_)
  have h0 : ¬ r < 0 := by simpa using h0
  have hw := hr2 (by omega)
  have hs : SmallDk d := by
    unfold wDk at hw
    exact ⟨small_of _ (by omega), small_of _ (by omega)⟩
  have ht := toDisk d hs
  have hts := toIntS ns hn
  have hsp := specSave d hs ns hn
  have him := implSave d ns
  obtain ⟨s1, s2, s3⟩ := saveM_small d ns
  generalize saveM d ns = g at *
  have e1 : Ev (fun k => laws_eqSlotStepS k g.1 g.1) true := eqSts g.1 s1
  have e2 : (!(g.2 == g.2)) = false := by cases g.2 <;> rfl
  refine Ev.bind ht (Ev.bind hts (Ev.bind hsp (Ev.bind ht (Ev.bind hts (Ev.bind him (yes e1 ?_))))))
  rw [e2]
  simp only [cond_false]
  refine Ev.bind ht (yes (eqDisk d hs) (Ev.bind hts (yes (eqIntV ns (by omega)) ?_)))
  have hw' : wSs d.1.2.2 + wSs d.2.2.2 ≤ 1048576 := by unfold wDk at hw; omega
  unfold wSs at hw'
  refine Ev.bind (markDkX d.1.1 d.1.2.1 d.2.1 d.2.2.1 d.1.2.2 d.2.2.2 (by omega) (by omega) (by omega) (by omega)) ?_
  refine Ev.bind (markNS (1 + (sumN List.length d.1.2.2 : Int) + (sumN List.length d.2.2.2 : Int)) (by omega) (by omega) ns (by omega)) ?_
  have hneg : ¬ (1 + (sumN List.length d.1.2.2 : Int) + (sumN List.length d.2.2.2 : Int) + (ns.length : Int) < 0) := by omega
  refine Ev.cond (fun h => absurd (of_decide_eq_true h) hneg) fun _ => ?_
  refine yes e1 ?_
  refine Ev.bind (markStx 1 (by decide) g.1 (by omega) (by omega)) ?_
  have hh := heldStx 1 (by decide) g.1 (by omega) (by omega)
  refine nonneg hh (by omega) ?_
  simp only [bne_self_eq_false, cond_false]
  refine Ev.bind ht (Ev.bind hts (Ev.bind him (yes e1 ?_)))
  rw [e2]
  simp only [cond_false]
  refine nonneg hh (by omega) ?_
  simp only [bne_self_eq_false, cond_false]
  exact Ev.now _
end Go.Proofs.Ytiabhdebjajgiaa.Pure
