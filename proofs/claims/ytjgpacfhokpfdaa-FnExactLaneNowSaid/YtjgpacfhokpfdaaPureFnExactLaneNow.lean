/- Proved: at every lane the program's LaneNow answers as the reference's. No condition. -/
import Derived.Test.YtjgpacfhokpfdaaLanePlFnExactLaneNow
set_option linter.unusedVariables false
namespace Go.Proofs.Ytjgpacfhokpfdaa.SFnExactLaneNow
open Go Go.Sx Go.Pl
def lastM (x : La) : St3 := if x.2.2.length = 0 then x.2.1 else (x.2.2.getD (x.2.2.length - 1) (dflt t_impl_Past)).2.1
def nowM (x : La) : St3 := if laneM x = true then lastM x else (0, 0, 0)
theorem last_ev (x : La) (h : SmallLa x) : Ev (fun _ => cond ((x.2.2.length : Int) == 0) (some x.2.1) (cond (decide (0 ≤ IntKind.i64.wrap ((x.2.2.length : Int) - 1))) (cond (decide (IntKind.i64.wrap ((x.2.2.length : Int) - 1) < (x.2.2.length : Int))) (some (x.2.2.getD (IntKind.i64.wrap ((x.2.2.length : Int) - 1)).toNat (dflt t_impl_Past)).2.1) none) none)) (lastM x) := by
  have hl := h.1
  unfold lastM
  by_cases h0 : x.2.2.length = 0
  · rw [if_pos h0]
    have : ((x.2.2.length : Int) == 0) = true := by rw [h0]; rfl
    rw [this]
    exact Ev.now _
  · rw [if_neg h0]
    have : ((x.2.2.length : Int) == 0) = false := beq_false_of_ne (by omega)
    have e1 : IntKind.i64.wrap ((x.2.2.length : Int) - 1) = ((x.2.2.length - 1 : Nat) : Int) := by rw [w64 (by omega) (by omega)]; omega
    have c1 : (0 : Int) ≤ ((x.2.2.length - 1 : Nat) : Int) := by omega
    have c2 : ((x.2.2.length - 1 : Nat) : Int) < (x.2.2.length : Int) := by omega
    simp only [this, cond_false, e1, decide_eq_true c1, decide_eq_true c2, cond_true, Int.toNat_natCast]
    exact Ev.now _
theorem specNow (x : La) (h : SmallLa x) : Ev (fun k => spec_LaneNow k x) (nowM x) := by
  refine Ev.step (fun k => spec_LaneNow_eq k x) (Ev.bind (specLane_ev x h) (Ev.cond (fun h0 => (Ev.now _).to ?_) fun h0 => ?_))
  · unfold nowM
    rw [if_neg (by intro e; rw [e] at h0; cases h0)]
  · unfold nowM
    rw [if_pos (by cases hh : laneM x with
      | true => rfl
      | false => rw [hh] at h0; cases h0)]
    exact last_ev x h
theorem implNow (x : La) (h : SmallLa x) : Ev (fun k => impl_LaneNow k x) (nowM x) := by
  refine Ev.step (fun k => impl_LaneNow_eq k x) (Ev.bind (implLane_ev x h) (Ev.cond (fun h0 => (Ev.now _).to ?_) fun h0 => ?_))
  · unfold nowM
    rw [if_neg (by intro e; rw [e] at h0; cases h0)]
  · unfold nowM
    rw [if_pos (by cases hh : laneM x with
      | true => rfl
      | false => rw [hh] at h0; cases h0)]
    exact Ev.bind (Ev.step (fun k => impl_laneNow_eq k x) (last_ev x h)) (Ev.now _)
end Go.Proofs.Ytjgpacfhokpfdaa.SFnExactLaneNow
namespace Go.Proofs.Ytjgpacfhokpfdaa.Pure
open Go Go.Sx Go.Pl Go.Proofs.Ytjgpacfhokpfdaa.SFnExactLaneNow

theorem FnExactLaneNow : Goal := by
  intro x hg
  refine Ev.ex (r := true) ?_
  refine Ev.step (fun k => laws_FnExactLaneNow_eq k x) ?_
  have hlong : x.2.2.length ≤ maxLen ∧ ∀ y ∈ x.2.2, LongPa y := by
    obtain ⟨_, _, h1, h2⟩ := hg
    exact ⟨h1, fun y hy => ⟨(h2 y hy).2.2.1.1, (h2 y hy).2.2.2.1⟩⟩
  obtain ⟨r, hr, hr1, hr2⟩ := szLane x 1048576 (by decide) (by decide) hlong.1 hlong.2
  refine Ev.bind hr (Ev.cond (fun _ => Ev.now _) fun h0 => ?_)
  have h0 : ¬ r < 0 := by simpa using h0
  have hs := hr2 (by omega)
  have ht := toLane x hs
  refine Ev.bind ht (Ev.bind (specNow x hs) (Ev.bind ht (Ev.bind (implNow x hs) (Ev.bind (Ev.of 1 fun m => eqState m _ _) ?_))))
  simp only [decide_true, Bool.not_true, cond_false]
  refine Ev.bind ht (Ev.bind (eqLane x x hs) ?_)
  simp only [decide_true, Bool.not_true, cond_false]
  exact Ev.now _

end Go.Proofs.Ytjgpacfhokpfdaa.Pure
