/- Whether a lane is ok: the reference's LaneOk and the program's are one plain function. The laws' own helpers: what is measured, carried over, compared. -/
import Derived.Test.YtjgpacfhokpfdaaChecksPlFnWordBack
set_option linter.unusedVariables false
set_option linter.unusedSimpArgs false
namespace Go.Proofs.Ytjgpacfhokpfdaa.SFnWordBack
open Go Go.Sx Go.Pl

def pastM (x : Pa) (p : Int) : Bool := evM x.1 && ((x.1.2.1 == p) && (stM x.2.1 && (eventsM x.2.2.1 2 && outsM x.2.2.2 2)))
def SmallPa (x : Pa) : Prop := x.2.2.1.length ≤ 1048576 ∧ x.2.2.2.length ≤ 1048576
def SmallLa (x : La) : Prop := x.2.2.length ≤ 1048576 ∧ ∀ y ∈ x.2.2, SmallPa y
def lessP (x y : Pa) : Bool := lessE x.1 y.1
def laneM (x : La) : Bool := inB x.1 0 3 && (stM x.2.1 && (!decide ((x.2.2.length : Int) > 100) && listM (fun y => pastM y x.1) lessP x.2.2))
/-! ### measured -/
theorem szW {n : Nat} {c : Int} (h0 : 0 ≤ c) (h1 : c ≤ 1048576) (hl : n ≤ maxLen) : IntKind.i64.wrap (c - (n : Int)) = c - n := by unfold maxLen at hl; exact w64 (by omega) (by omega)
theorem sz_flat {n : Nat} {c : Int} (h0 : 0 ≤ c) (h1 : c ≤ 1048576) (hl : n ≤ maxLen) :
    ∃ r : Int, Ev (fun _ => cond (decide (IntKind.i64.wrap (c - (n : Int)) < 0)) (some (-1)) (some (IntKind.i64.wrap (c - (n : Int))))) r ∧ r ≤ 1048576 ∧ (0 ≤ r → n ≤ 1048576) := by
  rw [szW h0 h1 hl]
  by_cases hn : c - (n : Int) < 0
  · rw [decide_eq_true hn]; exact ⟨-1, Ev.now _, by omega, by omega⟩
  · rw [decide_eq_false hn]; exact ⟨c - n, Ev.now _, by omega, by omega⟩
theorem sz_and {s : Nat → Option Int} {g : Nat → Int → Option Int} {r : Int} {p q : Prop} (hs : Ev s r) (h1 : r ≤ 1048576) (h2 : 0 ≤ r → p) (hg : 0 ≤ r → ∃ r' : Int, Ev (fun k => g k r) r' ∧ r' ≤ 1048576 ∧ (0 ≤ r' → q)) :
    ∃ r' : Int, Ev (fun k => (s k).bind fun t => cond (decide (t < 0)) (some (-1)) (g k t)) r' ∧ r' ≤ 1048576 ∧ (0 ≤ r' → p ∧ q) := by
  by_cases hr : r < 0
  · refine ⟨-1, Ev.bind hs ?_, by omega, by omega⟩
    simp only [decide_eq_true hr, cond_true]; exact Ev.now _
  · obtain ⟨r', h3, h4, h5⟩ := hg (by omega)
    refine ⟨r', Ev.bind hs ?_, h4, fun h => ⟨h2 (by omega), h5 h⟩⟩
    simp only [decide_eq_false hr, cond_false]; exact h3
def LongPa (x : Pa) : Prop := x.2.2.1.length ≤ maxLen ∧ x.2.2.2.length ≤ maxLen
/-! ### carried over -/
/-! ### compared -/
instance decEv7 : DecidableEq Ev7 := fun a b => inferInstance
instance decOu5 : DecidableEq Ou5 := fun a b => inferInstance
instance decPa : DecidableEq Pa := fun a b => inferInstance
instance decLa : DecidableEq La := fun a b => inferInstance
theorem neD {α : Type} [DecidableEq α] {β : Type} [DecidableEq β] (x y : α) (p q : β) (b : Bool) (h : b = decide (p = q)) [BEq α] [LawfulBEq α] : cond (x != y) false b = decide ((x, p) = (y, q)) := by
  subst h
  by_cases hx : x = y
  · subst hx; simp
  · have : (x != y) = true := by simpa using hx
    rw [this]; simp [hx]
theorem neL (x y : Int) : cond (x != y) false true = decide (x = y) := by
  by_cases hx : x = y
  · subst hx; simp
  · have : (x != y) = true := by simpa using hx
    rw [this]; simp [hx]
theorem len_ne {α : Type} [DecidableEq α] {l m : List α} {g : Nat → Option Bool} (h : l.length = m.length → Ev g (decide (l = m))) : Ev (fun k => cond ((l.length : Int) != (m.length : Int)) (some false) (g k)) (decide (l = m)) := by
  by_cases hl : l.length = m.length
  · have : ((l.length : Int) != (m.length : Int)) = false := by rw [hl]; simp
    simp only [this, cond_false]
    exact h hl
  · have : ((l.length : Int) != (m.length : Int)) = true := bne_iff_ne.2 (by omega)
    simp only [this, cond_true]
    refine (Ev.now _).to ?_
    rw [decide_eq_false (fun e => hl (by rw [e]))]
theorem eq_and {g h : Nat → Option Bool} {p q r : Prop} [Decidable p] [Decidable q] [Decidable r] (hg : Ev g (decide p)) (hh : p → Ev h (decide q)) (e : r ↔ p ∧ q) : Ev (fun k => (g k).bind fun x => cond (!x) (some false) (h k)) (decide r) := by
  refine Ev.bind hg ?_
  by_cases hp : p
  · rw [decide_eq_true hp]
    exact (hh hp).to (by simp [e, hp])
  · rw [decide_eq_false hp]
    exact (Ev.now _).to (by simp [e, hp])
theorem eq_done {p : Prop} [Decidable p] (h : p) : Ev (fun _ => some true) (decide p) := (Ev.now _).to (by simp [h])
end Go.Proofs.Ytjgpacfhokpfdaa.SFnWordBack
