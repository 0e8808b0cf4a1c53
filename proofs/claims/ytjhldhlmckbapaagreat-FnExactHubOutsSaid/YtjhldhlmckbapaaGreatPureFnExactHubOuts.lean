/- Proved: at every hub and node the program's HubOuts answers as the reference's; it writes into no argument, and its answer owns its memory. No condition. -/
import Derived.Test.YtjhldhlmckbapaaGreatHubOutsPlFnExactHubOuts
import Derived.Test.YtjhldhlmckbapaaGreatMarkHuPlFnExactHubOuts
set_option linter.unusedVariables false
namespace Go.Proofs.YtjhldhlmckbapaaGreat.SFnExactHubOuts
open Go Go.Sx Go.Pl
theorem yes {g f : Nat → Option Bool} (hg : Ev g true) (hf : Ev f true) : Ev (fun k => (g k).bind fun x => cond (!x) (some false) (f k)) true := Ev.bind hg hf
/-- What was written into an answer is read back. -/
theorem heldO_ev {l : List Ou5} {f : Nat → Option Bool} (hl : l.length ≤ 1048576) (hf : Ev f true) :
    Ev (fun k => (laws_heldOutS k (mkO 1 l.length) 1).bind fun x => cond (decide (x < 0)) (some false) (cond (x != 1 + 5 * (l.length : Int)) (some false) (f k))) true := by
  refine Ev.bind (heldO 1 (by decide) (by decide) l.length hl) ?_
  have h1 : ¬ (1 + 5 * (l.length : Int) < 0) := by omega
  rw [decide_eq_false h1]
  simp only [cond_false, bne_self_eq_false]
  exact hf
theorem goodHu (x : Hu) (hg : Go.Sx.Good t_laws_Hub x) : LongHu x := by
  have hw : ∀ l : List Wo, Go.Sx.Good t_sl_laws_Word l → LongWs l := by
    intro l ⟨h1, h2⟩
    refine ⟨h1, fun y hy => ?_⟩
    obtain ⟨_, _, _, _, _, _, _, h3, h4, h5, h6⟩ := h2 y hy
    exact ⟨h3.1, h4.1, h5.1, h6.1⟩
  exact ⟨hw _ hg.2.1, hw _ hg.2.2.1, hw _ hg.2.2.2⟩
end Go.Proofs.YtjhldhlmckbapaaGreat.SFnExactHubOuts
namespace Go.Proofs.YtjhldhlmckbapaaGreat.Pure
open Go Go.Sx Go.Pl Go.Proofs.YtjhldhlmckbapaaGreat.SFnExactHubOuts
theorem FnExactHubOuts : Goal := by
  intro h n hgh hg
  refine Ev.ex (r := true) ?_
  refine Ev.step (fun k => laws_FnExactHubOuts_eq k h n) ?_
  obtain ⟨r, hr, hr1, hr2⟩ := szHub h 1048576 (by decide) (by decide) (goodHu h hgh)
  refine Ev.bind hr (Ev.cond (fun _ => Ev.now _) fun h0 => ?_)
  have h0 : ¬ r < 0 := by simpa using h0
  have hsh := hr2 (by omega)
  have hwh := (szHub_W h 1048576 (by decide) (by decide) (goodHu h hgh)).of hr (by omega)
  obtain ⟨q, hq, hq1, hq2⟩ := szNode n r (by omega) hr1 (goodNd n hg)
  refine Ev.bind hq (Ev.cond (fun _ => Ev.now _) fun h1 => ?_)
  have h1 : ¬ q < 0 := by simpa using h1
  have hs := hq2 (by omega)
  have hwn := (szNode_W n r (by omega) hr1 (goodNd n hg)).of hq (by omega)
  have ht := toNode n hs
  have hth := toHub h hsh
  have hl := hubOutsM_len h n
  have he : Ev (fun k => laws_eqOutS k (hubOutsM h n) (hubOutsM h n)) true := (eqOutS _ _ hl).to (by simp)
  have heh : Ev (fun k => laws_eqHub k h h) true := (eqHub _ _ hsh).to (by simp)
  refine Ev.bind hth (Ev.bind ht (Ev.bind (specHubOuts h n hsh hs) (Ev.bind hth (Ev.bind ht (Ev.bind (implHubOuts h n hsh hs) (yes he (Ev.bind hth (yes heh (Ev.bind ht (yes (eqNode n hs) ?_))))))))))
  obtain ⟨b, hb, hb1, hb2⟩ := markHub_ok 1 h.1 h (by decide) (by omega)
  refine Ev.bind hb ?_
  refine mark_ndY (r := q) b.1 (by omega) (by omega) false (yes he (Ev.bind (markO 1 (by decide) (by decide) _ hl) ?_))
  exact heldO_ev hl (Ev.bind hth (Ev.bind ht (Ev.bind (implHubOuts h n hsh hs) (yes he (heldO_ev hl (Ev.now _))))))
end Go.Proofs.YtjhldhlmckbapaaGreat.Pure
