/- Proved: at every code, of the two drawn things that are let out and are not the same just one is first, and the program's answers are the reference's. No condition. -/
import Derived.Test.YtbgibmngijomfaaGFnOutOrder
import Derived.Test.YtbgibmngijomfaaOutOrderOrdOut
import Derived.Test.YtbgibmngijomfaaOutOrderPick
set_option linter.unusedVariables false
set_option linter.unusedSimpArgs false
namespace Go.Proofs.Ytbgibmngijomfaa.Pure
open Go.RowKit Go.Proofs.YtbgibmngijomfaaW.PrintWords Go.Proofs.YtbgibmngijomfaaW.PrintLast Go.Proofs.YtbgibmngijomfaaE Go.Proofs.Ytbgibmngijomfaa.XOutOrder

theorem drawOutLess (l : List Int) (hw : ∀ x ∈ l, (Lit.int .u8 x).wf = true) : ∃ v, ∀ k, spec_DrawOutLess.f (k + 1) l = some v := by
  have hb := bytes_of_wf l hw
  have hlen : (l.take 2000).length ≤ 2000 := by simp; omega
  have pk : ∀ k p n, 0 ≤ p → p ≤ 1000 → ∃ v, spec_l6Rd_pick.f (k + 1) (l.take 2000) p n = some (v, p + 1) := fun k p n h0 h1 => by
    obtain ⟨v, hv, _⟩ := pick_ok k _ p n hlen hb h0 (by omega)
    exact ⟨v, hv⟩
  have hk : ∀ k p n, spec_l6Rd_pick.f (k + 1) (l.take 2000) p n = spec_l6Rd_pick.f 1 (l.take 2000) p n := fun _ _ _ => rfl
  have out1 : ∀ p, 0 ≤ p → p ≤ 900 → ∃ a b c d e, ∀ k, spec_l72Out.f (k + 1) (l.take 2000) p = some (a, b, c, d, e, p + 5) := by
    intro p h0 h1
    obtain ⟨a, ha⟩ := pk 0 p 6 h0 (by omega)
    obtain ⟨b, hb⟩ := pk 0 (p + 1) 4 (by omega) (by omega)
    obtain ⟨c, hc⟩ := pk 0 (p + 1 + 1) 3 (by omega) (by omega)
    obtain ⟨d, hd⟩ := pk 0 (p + 1 + 1 + 1) 2 (by omega) (by omega)
    obtain ⟨e, he⟩ := pk 0 (p + 1 + 1 + 1 + 1) 4 (by omega) (by omega)
    refine ⟨a, b, c, d, e, fun k => ?_⟩
    unfold spec_l72Out.f
    simp only [hk, ha, hb, hc, hd, he, Option.bind_some]
    rw [show p + 1 + 1 + 1 + 1 + 1 = p + 5 by omega]
  obtain ⟨a, b, c, d, e, h1⟩ := out1 0 (by omega) (by omega)
  obtain ⟨a', b', c', d', e', h2⟩ := out1 (0 + 5) (by omega) (by omega)
  obtain ⟨q, hq⟩ := pk 0 (0 + 5 + 5) 2 (by omega) (by omega)
  obtain ⟨e2, he2⟩ := pk 0 (0 + 5 + 5 + 1) 4 (by omega) (by omega)
  by_cases h : q = 0
  · refine ⟨(a, b, c, d, e, a, b, c, d, e2), fun k => ?_⟩
    unfold spec_DrawOutLess.f
    simp only [open_ok, h1, h2, hk, hq, he2, Option.bind_some, if_pos h]
  · refine ⟨(a, b, c, d, e, a', b', c', d', e'), fun k => ?_⟩
    unfold spec_DrawOutLess.f
    simp only [open_ok, h1, h2, hk, hq, he2, Option.bind_some, if_neg h]

theorem FnOutOrder : laws_FnOutOrder.Goal := by
  intro l hg
  refine Ev.rounds (g := fun k => laws_FnOutOrder.f k l) ?_
  unfold laws_FnOutOrder.f
  by_cases hl : (l.length : Int) > 1048576
  · exact ev_ite_pos hl (Ev.now _)
  refine ev_ite_neg hl ?_
  obtain ⟨⟨a, b, c, d, e, a', b', c', d', e'⟩, hv⟩ := drawOutLess l hg.2
  refine Ev.bind (a := (a, b, c, d, e, a', b', c', d', e')) ⟨1, fun k hk => ?_⟩ ?_
  · obtain ⟨j, rfl⟩ : ∃ j, k = j + 1 := ⟨k - 1, by omega⟩
    exact hv j
  simp only [specOutLess, Option.bind_some]
  refine Ev.bind (implOutLess_ev a b c d e a' b' c' d' e') ?_
  refine Ev.bind (implOutLess_ev a' b' c' d' e' a b c d e) ?_
  refine ev_ite_neg (by simp) (ev_ite_neg (by simp) ?_)
  cases hx : lexM [a, b, c, d, e] [a', b', c', d', e'] with
  | true =>
    rw [lex_asymm _ _ hx]
    exact ev_ite_pos (by decide) (ev_ite_pos rfl (Ev.now _))
  | false =>
    cases hy : lexM [a', b', c', d', e'] [a, b, c, d, e] with
    | true => exact ev_ite_pos (by decide) (ev_ite_neg (by decide) (Ev.now _))
    | false =>
      have := lex_total _ _ (by simp) hx hy
      simp only [List.cons.injEq, and_true] at this
      obtain ⟨rfl, rfl, rfl, rfl, rfl⟩ := this
      exact ev_ite_neg (by decide) (ev_ite_pos (by simp) (ev_ite_neg (by decide) (Ev.now _)))

end Go.Proofs.Ytbgibmngijomfaa.Pure
