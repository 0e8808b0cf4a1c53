/- Proved: at every disk, all steps and each number of them the program's SlotDo answers as the reference's; it writes into no argument, and its answer owns its memory. No condition. -/
import Derived.Test.YtiabhdebjajgiaaSlotDoPlFnExactSlotDo
set_option linter.unusedVariables false
namespace Go.Proofs.Ytiabhdebjajgiaa.SFnExactSlotDo
open Go Go.Sx Go.Pl
theorem yes {g f : Nat → Option Bool} (hg : Ev g true) (hf : Ev f true) : Ev (fun k => (g k).bind fun x => cond (!x) (some false) (f k)) true := Ev.bind hg hf
theorem nonneg {g : Nat → Option Int} {r : Int} {f : Nat → Int → Option Bool} (hg : Ev g r) (h0 : 0 ≤ r) (hf : Ev (fun k => f k r) true) : Ev (fun k => (g k).bind fun x => cond (decide (x < 0)) (some false) (f k x)) true := by
  refine Ev.bind hg ?_
  have h1 : ¬ (r < 0) := by omega
  simp only [decide_eq_false h1, cond_false]
  exact hf
theorem goodDk (d : Dk) (hg : Go.Sx.Good t_laws_SlotDisk d) : LongDk d := by
  have hw : ∀ l : List (List Int), Go.Sx.Good t_sl_sl_int l → LongSs l := fun l ⟨h1, h2⟩ => ⟨h1, fun y hy => (h2 y hy).1⟩
  exact ⟨hw _ hg.1.2.2, hw _ hg.2.2.2⟩
end Go.Proofs.Ytiabhdebjajgiaa.SFnExactSlotDo
namespace Go.Proofs.Ytiabhdebjajgiaa.Pure
open Go Go.Sx Go.Pl Go.Proofs.Ytiabhdebjajgiaa.SFnExactSlotDo
theorem FnExactSlotDo : Goal := by
  intro d steps most hgd hgs _
  refine Ev.ex (r := true) ?_
  refine Ev.step (fun k => laws_FnExactSlotDo_eq k d steps most) ?_
  obtain ⟨r, hr, hr2⟩ := szDisk_W d 1048576 (by decide) (by decide) (goodDk d hgd)
  refine Ev.bind hr (Ev.cond (fun _ => Ev.now _) fun h0 => ?_)
  have h0 : ¬ r < 0 := by simpa using h0
  have hw := hr2 (by omega)
  have hs : SmallDk d := by
    unfold wDk at hw
    exact ⟨small_of _ (by omega), small_of _ (by omega)⟩
  have hls : LongSts steps := ⟨hgs.1, fun e he => (hgs.2 e he).2.2.2.2.1⟩
  obtain ⟨q, hq, hq2⟩ := szSts_W steps r (by omega) (by omega) hls
  refine Ev.bind hq (Ev.cond (fun _ => Ev.now _) fun h1 => ?_)
  have h1 : ¬ q < 0 := by simpa using h1
  have hv := hq2 (by omega)
  have hst : SmallSts steps := small_sts _ (by omega)
  have ht := toDisk d hs
  have hts := toSts steps hst
  have hsp := specSlotDo d hs steps hst most
  have him := implSlotDo d hs steps hst most
  obtain ⟨s1, s2, s3⟩ := slotDoM_small d steps most
  generalize slotDoM d steps most = g at *
  have e1 : Ev (fun k => laws_eqSlotDisk k g g) true := eqDisk g s1
  refine Ev.bind ht (Ev.bind hts (Ev.bind hsp (Ev.bind ht (Ev.bind hts (Ev.bind him (yes e1 (Ev.bind ht (yes (eqDisk d hs) (Ev.bind hts (yes (eqSts steps hst) ?_)))))))))) 
  have hw' : wSs d.1.2.2 + wSs d.2.2.2 ≤ 1048576 := by unfold wDk at hw; omega
  unfold wSs at hw'
  refine Ev.bind (markDkX d.1.1 d.1.2.1 d.2.1 d.2.2.1 d.1.2.2 d.2.2.2 (by omega) (by omega) (by omega) (by omega)) ?_
  have hcb := cntSts_bound steps
  obtain ⟨b, hb, hp⟩ := markSts_ok (1 + (sumN List.length d.1.2.2 : Int) + (sumN List.length d.2.2.2 : Int)) steps (by omega) (by omega)
  refine Ev.bind hb ?_
  have hn : ¬ (@LT.lt Int _ b.1 0) := by rw [hp]; omega
  refine Ev.cond (fun h => absurd (of_decide_eq_true h) hn) fun _ => ?_
  have l1 := s1.1.1
  have l2 := s1.2.1
  refine yes e1 (Ev.bind (markDkX g.1.1 g.1.2.1 g.2.1 g.2.2.1 g.1.2.2 g.2.2.2 (by omega) (by omega) l1 l2) ?_)
  have hh := heldDkX g.1.1 g.1.2.1 g.2.1 g.2.2.1 g.1.2.2 g.2.2.2 (by omega) (by omega) l1 l2
  refine nonneg hh (by omega) ?_
  simp only [bne_self_eq_false, cond_false]
  refine Ev.bind ht (Ev.bind hts (Ev.bind him (yes e1 (nonneg hh (by omega) ?_))))
  simp only [bne_self_eq_false, cond_false]
  exact Ev.now _
end Go.Proofs.Ytiabhdebjajgiaa.Pure
