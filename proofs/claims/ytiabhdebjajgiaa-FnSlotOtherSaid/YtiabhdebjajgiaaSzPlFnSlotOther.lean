/- What the laws measure is a sum. -/
import Derived.Test.YtiabhdebjajgiaaOkPlFnSlotOther
import Derived.Test.YtiabhdebjajgiaaLanePlFnSlotOther
set_option linter.unusedVariables false
set_option linter.unusedSimpArgs false
namespace Go.Proofs.Ytiabhdebjajgiaa.SFnSlotOther
open Go Go.Sx Go.Pl

def sumN {α : Type} (f : α → Nat) (l : List α) : Nat := (l.map f).sum
theorem sumN_drop {α : Type} (f : α → Nat) (l : List α) (d : α) (i : Nat) (h : i < l.length) : sumN f (l.drop i) = f (l.getD i d) + sumN f (l.drop (i + 1)) := by
  unfold sumN
  rw [getD_drop l d i h, List.map_cons, List.sum_cons]
theorem sumN_le {α : Type} {f g : α → Nat} {c : Nat} (h : ∀ x, f x ≤ c * g x) (l : List α) : sumN f l ≤ c * sumN g l := by
  unfold sumN
  induction l with
  | nil => simp
  | cons x l ih => simp only [List.map_cons, List.sum_cons, Nat.mul_add]; have := h x; omega
theorem sumN_add {α : Type} {f g : α → Nat} {a b : Nat} (h : ∀ x, f x ≤ a + b * g x) (l : List α) : sumN f l ≤ a * l.length + b * sumN g l := by
  unfold sumN
  induction l with
  | nil => simp
  | cons x l ih => simp only [List.map_cons, List.sum_cons, List.length_cons, Nat.mul_add]; have := h x; omega
/-- What is left, if anything, is less by that many. -/
def SzW (f : Nat → Option Int) (n : Nat) (c : Int) : Prop := ∃ r : Int, Ev f r ∧ (0 ≤ r → (n : Int) + r ≤ c)
theorem SzW.of {f : Nat → Option Int} {n : Nat} {c r : Int} (h : SzW f n c) (hr : Ev f r) (h0 : 0 ≤ r) : (n : Int) + r ≤ c := by
  obtain ⟨r', h1, h2⟩ := h
  have := Ev.inj h1 hr
  subst this
  exact h2 h0
theorem SzW.step {f g : Nat → Option Int} {n : Nat} {c : Int} (h : ∀ k, f (k + 1) = g k) (hg : SzW g n c) : SzW f n c := by
  obtain ⟨r, h1, h2⟩ := hg
  exact ⟨r, Ev.step h h1, h2⟩
theorem SzW.and {s : Nat → Option Int} {g : Nat → Int → Option Int} {n m : Nat} {c : Int} (hs : SzW s n c) (h1 : c ≤ 1048576) (hg : ∀ r : Int, 0 ≤ r → r ≤ 1048576 → SzW (fun k => g k r) m r) : SzW (fun k => (s k).bind fun t => cond (decide (t < 0)) (some (-1)) (g k t)) (n + m) c := by
  obtain ⟨r, h2, h3⟩ := hs
  by_cases hr : r < 0
  · refine ⟨-1, Ev.bind h2 ?_, by omega⟩
    simp only [decide_eq_true hr, cond_true]; exact Ev.now _
  · have h3 := h3 (by omega)
    obtain ⟨r', h4, h5⟩ := hg r (by omega) (by omega)
    refine ⟨r', Ev.bind h2 ?_, fun h => by have := h5 h; omega⟩
    simp only [decide_eq_false hr, cond_false]; exact h4
theorem SzW.now {c : Int} : SzW (fun _ => some c) 0 c := ⟨c, Ev.now _, fun _ => by omega⟩
theorem SzW.end_ {s : Nat → Option Int} {n : Nat} {c : Int} (hs : SzW s n c) (h1 : c ≤ 1048576) : SzW (fun k => (s k).bind fun t => cond (decide (t < 0)) (some (-1)) (some t)) n c :=
  SzW.and (m := 0) (g := fun _ t => some t) hs h1 fun r _ _ => SzW.now
theorem szW_flat {n : Nat} {c : Int} (h0 : 0 ≤ c) (h1 : c ≤ 1048576) (hl : n ≤ maxLen) :
    SzW (fun _ => cond (decide (IntKind.i64.wrap (c - (n : Int)) < 0)) (some (-1)) (some (IntKind.i64.wrap (c - (n : Int))))) n c := by
  rw [szW h0 h1 hl]
  by_cases hn : c - (n : Int) < 0
  · rw [decide_eq_true hn]; exact ⟨-1, Ev.now _, by omega⟩
  · rw [decide_eq_false hn]; exact ⟨c - n, Ev.now _, by omega⟩
theorem szW_list {α : Type} (f : Nat → Option Int) (L : Nat → Nat → Int → Nat → Option Int) (l : List α) (d : α) (wt : α → Nat) (c : Int) (h0 : 0 ≤ c) (h1 : c ≤ 1048576) (hl : l.length ≤ maxLen)
    (hf : ∀ k, f (k + 1) = cond (decide (IntKind.i64.wrap (c - (l.length : Int)) < 0)) (some (-1)) (L k k (IntKind.i64.wrap (c - (l.length : Int))) 0)) (hend : ∀ k j c, L k (j + 1) c l.length = some c)
    (hst : ∀ i, i < l.length → ∀ c : Int, 0 ≤ c → c ≤ 1048576 → ∃ g, SzW g (wt (l.getD i d)) c ∧ ∀ k j, L k (j + 1) c i = (g k).bind fun t => cond (decide (t < 0)) (some (-1)) (L k j t (i + 1))) : SzW f (l.length + sumN wt l) c := by
  have key : ∀ m i (c : Int), i + m = l.length → 0 ≤ c → c ≤ 1048576 → ∃ r, EvL (fun k j => L k j c i) r ∧ (0 ≤ r → (sumN wt (l.drop i) : Int) + r ≤ c) := by
    intro m
    induction m with
    | zero =>
      intro i c hi hc0 hc1
      obtain rfl : i = l.length := by omega
      refine ⟨c, EvL.step (M := fun _ _ => some c) (fun k j => hend k j c) (EvL.now _), fun _ => ?_⟩
      rw [List.drop_length]; simp [sumN]
    | succ m ih =>
      intro i c hi hc0 hc1
      obtain ⟨g, ⟨r, hg, hr2⟩, hs⟩ := hst i (by omega) c hc0 hc1
      by_cases hr : r < 0
      · refine ⟨-1, EvL.step hs (EvL.bind hg (EvL.cond (fun _ => EvL.now _) fun h => ?_)), by omega⟩
        rw [decide_eq_true hr] at h; cases h
      · have hr2 := hr2 (by omega)
        obtain ⟨r', h2, h4⟩ := ih (i + 1) r (by omega) (by omega) (by omega)
        refine ⟨r', EvL.step hs (EvL.bind hg (EvL.cond (fun h => ?_) fun _ => h2)), fun h5 => ?_⟩
        · rw [decide_eq_false hr] at h; cases h
        · have := h4 h5
          rw [sumN_drop wt l d i (by omega)]
          omega
  rw [szW h0 h1 hl] at hf
  by_cases hn : c - (l.length : Int) < 0
  · refine ⟨-1, Ev.step hf ?_, by omega⟩
    rw [decide_eq_true hn]; exact Ev.now _
  · obtain ⟨r, h2, h3⟩ := key l.length 0 (c - (l.length : Int)) (by omega) (by omega) (by omega)
    refine ⟨r, Ev.step hf ?_, fun h => ?_⟩
    · simp only [decide_eq_false hn, cond_false]
      exact EvL.ev (L := fun k j => L k j (c - (l.length : Int)) 0) h2
    · have := h3 h
      rw [List.drop_zero] at this
      omega
end Go.Proofs.Ytiabhdebjajgiaa.SFnSlotOther
