/- Proved: at every list of programs the program's AppOk answers as the reference's. No condition. -/
import Derived.Test.YtagkoaalbapnmaaAppOkAppOkPure
namespace Go.Proofs.Ytagkoaalbapnmaa.Pure
open Go.RowKit Go.Proofs.YtagkoaalbapnmaaW.PrintWords Go.Proofs.YtagkoaalbapnmaaE Go.Proofs.Ytagkoaalbapnmaa.XAppOk

theorem FnExactAppOk : laws_FnExactAppOk.Goal := by
  intro l hg
  refine Ev.rounds (g := fun k => laws_FnExactAppOk.f k l) ?_
  unfold laws_FnExactAppOk.f
  obtain ⟨r, hr, hr1, hr2⟩ := laws_szAppS_ev l 1048576 (by omega) (by omega) hg
  refine Ev.bind hr ?_
  by_cases h0 : r < 0
  · exact ev_ite_pos h0 (Ev.now _)
  have hs := hr2 (by omega)
  have hc := laws_toAppS_sm l hs
  have hb : ∀ x ∈ l.map cv87, x.f0.length ≤ 1048576 ∧ ∀ y ∈ x.f0, y.f1.length ≤ 1048576 := fun x hx => ⟨(hc.2 x hx).1, (hc.2 x hx).2⟩
  refine ev_ite_neg h0 (Ev.bind (laws_toAppS_ev l hs) (Ev.bind (specApps_ev _ hc.1 hb) (Ev.bind (laws_toAppS_ev l hs) (Ev.bind (implApps_ev _ hc.1 hb) ?_))))
  refine ev_ite_neg (by simp) (Ev.bind (laws_toAppS_ev l hs) ?_)
  obtain ⟨t, ht, ht2⟩ := laws_eqAppS_ev (l.map cv87) (l.map cv87) hc
  rw [ht2.2 rfl] at ht
  exact Ev.bind ht (ev_ite_pos rfl (Ev.now _))

end Go.Proofs.Ytagkoaalbapnmaa.Pure
