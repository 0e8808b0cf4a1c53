/- Proved: at every lane and all that has come the program's LaneCut answers as the reference's; it writes into no argument, and its answer owns its memory. No condition. -/
import Derived.Test.YtjgpacfhokpfdaaCutPlFnExactLaneCut
set_option linter.unusedVariables false
namespace Go.Proofs.Ytjgpacfhokpfdaa.SFnExactLaneCut
open Go Go.Sx Go.Pl
theorem yes {g f : Nat → Option Bool} (hg : Ev g true) (hf : Ev f true) : Ev (fun k => (g k).bind fun x => cond (!x) (some false) (f k)) true := Ev.bind hg hf
theorem nonneg {g : Nat → Option Int} {r : Int} {f : Nat → Int → Option Bool} (hg : Ev g r) (h0 : 0 ≤ r) (hf : Ev (fun k => f k r) true) : Ev (fun k => (g k).bind fun x => cond (decide (x < 0)) (some false) (f k x)) true := by
  refine Ev.bind hg ?_
  have h1 : ¬ (r < 0) := by omega
  simp only [decide_eq_false h1, cond_false]
  exact hf
theorem bools {b : Bool} {f : Nat → Option Bool} (hf : Ev f true) : Ev (fun k => cond (!b == b) (some false) (f k)) true := by
  have h : (!b == b) = false := by cases b <;> rfl
  simp only [h, cond_false]
  exact hf
end Go.Proofs.Ytjgpacfhokpfdaa.SFnExactLaneCut
namespace Go.Proofs.Ytjgpacfhokpfdaa.Pure
open Go Go.Sx Go.Pl Go.Proofs.Ytjgpacfhokpfdaa.SFnExactLaneCut
theorem FnExactLaneCut : Goal := by
  intro x came hg hg2
  refine Ev.ex (r := true) ?_
  refine Ev.step (fun k => laws_FnExactLaneCut_eq k x came) ?_
  have hlg : LongLa x := ⟨hg.2.2.1, fun y hy => ⟨(hg.2.2.2 y hy).2.2.1.1, (hg.2.2.2 y hy).2.2.2.1⟩⟩
  obtain ⟨r, hr, hr1, hr2⟩ := szLane x 1048576 (by decide) (by decide) hlg.1 hlg.2
  refine Ev.bind hr (Ev.cond (fun _ => Ev.now _) fun h0 => ?_)
  have h0 : ¬ r < 0 := by simpa using h0
  have hs := hr2 (by omega)
  obtain ⟨r', hr', hr1', hr2'⟩ := szEventS came r (by omega) hr1 hg2.1
  refine Ev.bind hr' (Ev.cond (fun _ => Ev.now _) fun h0' => ?_)
  have h0' : ¬ r' < 0 := by simpa using h0'
  have hc := hr2' (by omega)
  have hw := (szLane_W x 1048576 (by decide) (by decide) hlg).of hr (by omega)
  have hb := cnt_bound x.2.2
  have hb : sumN cntPa x.2.2 ≤ 10 * wLa x := hb
  obtain ⟨s1, s4⟩ := cut_small x came hs
  have ht := toLane x hs
  have hte := toEventS came hc
  have hsp := specCut x came hs hc
  have him := implCut x came hs hc
  generalize cutM x came = g at *
  have e1 : Ev (fun k => laws_eqLane k g.1 g.1) true := (eqLane _ _ s1).to (by simp)
  have ex : Ev (fun k => laws_eqLane k x x) true := (eqLane _ _ hs).to (by simp)
  have ee : Ev (fun k => laws_eqEventS k came came) true := (eqEventS _ _ hc).to (by simp)
  refine Ev.bind ht (Ev.bind hte (Ev.bind hsp (Ev.bind ht (Ev.bind hte (Ev.bind him (yes e1 (bools (Ev.bind ht (yes ex (Ev.bind hte (yes ee ?_)))))))))))
  refine Ev.bind (markLa x.1 x.2.1.1 x.2.1.2.1 x.2.1.2.2 1 (by decide) x.2.2 (by omega) hs.1 hs.2) ?_
  refine Ev.bind (markES (1 + (sumN cntPa x.2.2 : Int)) (by omega) (by omega) came hc) ?_
  have n1 : ¬ (1 + (sumN cntPa x.2.2 : Int) + 7 * (came.length : Int) < 0) := by omega
  rw [decide_eq_false n1]
  simp only [cond_false]
  refine yes e1 (bools ?_)
  refine Ev.bind (markLa g.1.1 g.1.2.1.1 g.1.2.1.2.1 g.1.2.1.2.2 1 (by decide) g.1.2.2 (by omega) s1.1 s1.2) ?_
  have hl1 := heldLa g.1.1 g.1.2.1 1 (by decide) g.1.2.2 (by omega) s1.1 s1.2
  refine nonneg hl1 (by omega) ?_
  simp only [bne_self_eq_false, cond_false]
  refine Ev.bind ht (Ev.bind hte (Ev.bind him (yes e1 (bools ?_))))
  refine nonneg hl1 (by omega) ?_
  simp only [bne_self_eq_false, cond_false]
  exact Ev.now _
end Go.Proofs.Ytjgpacfhokpfdaa.Pure
