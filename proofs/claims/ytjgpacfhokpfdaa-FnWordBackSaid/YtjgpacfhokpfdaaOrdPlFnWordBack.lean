/- The order of rows of numbers is a strict total order. -/
import Derived.Test.YtjgpacfhokpfdaaFFnWordBack
import Derived.Test.YtjgpacfhokpfdaaPl
import Derived.Test.YtjgpacfhokpfdaaChecksPlFnWordBack
set_option linter.unusedVariables false
namespace Go.Proofs.Ytjgpacfhokpfdaa.SFnWordBack
open Go Go.Sx Go.Pl
theorem lexIrr : ∀ a, lexM a a = false
  | [] => rfl
  | x :: xs => by unfold lexM; rw [lexIrr xs]; simp

theorem lexAsym : ∀ a b, lexM a b = true → lexM b a = false
  | [], [], h => by cases h
  | [], _ :: _, _ => rfl
  | _ :: _, [], h => by cases h
  | x :: xs, y :: ys, h => by
    simp only [lexM, Bool.or_eq_true, Bool.and_eq_true, decide_eq_true_eq] at h
    rcases h with h | ⟨rfl, h⟩
    · simp only [lexM, decide_eq_false (show ¬ y < x by omega), decide_eq_false (show ¬ y = x by omega), Bool.false_and, Bool.or_self]
    · simp only [lexM, lexAsym xs ys h, Bool.and_false, Bool.or_false]; simp

theorem lexTrans : ∀ a b c, lexM a b = true → lexM b c = true → lexM a c = true
  | [], [], _, h, _ => by cases h
  | [], _ :: _, [], _, h => by cases h
  | [], _ :: _, _ :: _, _, _ => rfl
  | _ :: _, [], _, h, _ => by cases h
  | _ :: _, _ :: _, [], _, h => by cases h
  | x :: xs, y :: ys, z :: zs, h, h' => by
    simp only [lexM, Bool.or_eq_true, Bool.and_eq_true, decide_eq_true_eq] at h h' ⊢
    rcases h with h | ⟨rfl, h⟩
    · rcases h' with h' | ⟨rfl, h'⟩
      · exact .inl (by omega)
      · exact .inl h
    · rcases h' with h' | ⟨rfl, h'⟩
      · exact .inl h'
      · exact .inr ⟨rfl, lexTrans xs ys zs h h'⟩

theorem lexTot : ∀ a b : List Int, a.length = b.length → lexM a b = false → lexM b a = false → a = b
  | [], [], _, _, _ => rfl
  | [], _ :: _, h, _, _ => by cases h
  | _ :: _, [], h, _, _ => by cases h
  | x :: xs, y :: ys, hl, h, h' => by
    simp only [lexM, Bool.or_eq_false_iff, Bool.and_eq_false_iff, decide_eq_false_iff_not] at h h'
    have hx : x = y := by omega
    subst hx
    have h1 : lexM xs ys = false := by simpa using h.2
    have h2 : lexM ys xs = false := by simpa using h'.2
    rw [lexTot xs ys (by simpa using hl) h1 h2]

theorem evL_inj {x y : Ev7} (h : evL x = evL y) : x = y := by
  obtain ⟨a, b, c, d, e, f, g⟩ := x
  obtain ⟨a', b', c', d', e', f', g'⟩ := y
  simp only [evL, List.cons.injEq, and_true] at h
  obtain ⟨rfl, rfl, rfl, rfl, rfl, rfl, rfl⟩ := h
  rfl

theorem ouL_inj {x y : Ou5} (h : ouL x = ouL y) : x = y := by
  obtain ⟨a, b, c, d, e⟩ := x
  obtain ⟨a', b', c', d', e'⟩ := y
  simp only [ouL, List.cons.injEq, and_true] at h
  obtain ⟨rfl, rfl, rfl, rfl, rfl⟩ := h
  rfl

theorem lessE_tot {x y : Ev7} (h : lessE x y = false) (h' : lessE y x = false) : x = y := evL_inj (lexTot _ _ rfl h h')
theorem lessO_tot {x y : Ou5} (h : lessO x y = false) (h' : lessO y x = false) : x = y := ouL_inj (lexTot _ _ rfl h h')
end Go.Proofs.Ytjgpacfhokpfdaa.SFnWordBack
