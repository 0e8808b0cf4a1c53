/- Rows of numbers are compared number by number: what slices.Compare says of them. -/
import Derived.Test.YtbgibmngijomfaaXOutOrderx2
import Derived.Test.YtbgibmngijomfaaEv
set_option linter.unusedVariables false
set_option linter.unusedSimpArgs false
namespace Go.Proofs.Ytbgibmngijomfaa.XOutOrder
open Go.RowKit Go.Proofs.YtbgibmngijomfaaW.PrintWords Go.Proofs.YtbgibmngijomfaaW.PrintLast Go.Proofs.YtbgibmngijomfaaE

/-- Less, number by number. -/
def lexM : List Int → List Int → Bool
  | [], [] => false
  | [], _ :: _ => true
  | _ :: _, [] => false
  | x :: xs, y :: ys => decide (x < y) || (decide (x = y) && lexM xs ys)
def cmpM : List Int → List Int → Int
  | [], [] => 0
  | [], _ :: _ => -1
  | _ :: _, [] => 1
  | x :: xs, y :: ys => if x < y then -1 else if x > y then 1 else cmpM xs ys
theorem cmp_lex : ∀ a b, decide (cmpM a b < 0) = lexM a b
  | [], [] => rfl
  | [], _ :: _ => rfl
  | _ :: _, [] => rfl
  | x :: xs, y :: ys => by
    unfold cmpM lexM
    by_cases h1 : x < y
    · simp [h1]
    · by_cases h2 : x > y
      · have : ¬ x = y := by omega
        simp [h1, h2, this]
      · have : x = y := by omega
        subst this
        simp [cmp_lex xs ys]
theorem cmpInt (a b : Int) : cmp_Compare_int.f a b = some (if a < b then -1 else if a > b then 1 else 0) := by
  unfold cmp_Compare_int.f cmp_isNaN_int.f
  simp
  split
  · rfl
  · split <;> rfl
theorem compare_ev (a b : List Int) (h : a.length ≤ 1048576) : Ev (fun k => slices_Compare_int_int.f k a b) (cmpM a b) := by
  unfold slices_Compare_int_int.f
  refine ev_fun (loop_up (fun k i => slices_Compare_int_int.l0 k a b a (a.length : Int) (i : Int)) a.length (fun i => cmpM (a.drop i) (b.drop i)) ?_ ?_ 0 (by omega)) (by simp)
  · by_cases hl : (a.length : Int) < (b.length : Int)
    · refine Ev.step (f := fun _ => some (-1)) (fun k => by simp only [slices_Compare_int_int.l0]; rw [if_neg (by omega), if_pos hl]) (ev_fun (Ev.now _) ?_)
      rw [List.drop_length, getD_drop b 0 a.length (by omega)]
      rfl
    · refine Ev.step (f := fun _ => some 0) (fun k => by simp only [slices_Compare_int_int.l0]; rw [if_neg (by omega), if_neg hl]) (ev_fun (Ev.now _) ?_)
      rw [List.drop_length, List.drop_of_length_le (by omega)]
      rfl
  · intro i hi h1
    have c1 : (i : Int) < (a.length : Int) := by omega
    have c2 : (0 : Int) ≤ (i : Int) := by omega
    rw [getD_drop a 0 i hi]
    by_cases hb : i < b.length
    · have c3 : ¬ (i : Int) ≥ (b.length : Int) := by omega
      have c4 : (i : Int) < (b.length : Int) := by omega
      rw [getD_drop b 0 i hb]
      refine Ev.step (f := fun k => if (if a.getD i 0 < b.getD i 0 then (-1 : Int) else if a.getD i 0 > b.getD i 0 then 1 else 0) = 0 then slices_Compare_int_int.l0 k a b a (a.length : Int) ((i + 1 : Nat) : Int) else some (if a.getD i 0 < b.getD i 0 then (-1 : Int) else if a.getD i 0 > b.getD i 0 then 1 else 0)) (fun k => ?_) ?_
      · simp only [slices_Compare_int_int.l0, if_pos c1, if_pos c2, if_neg c3, if_pos c4, rd_nat, cmpInt, Option.bind_some, w64n i (by omega)]
      · unfold cmpM
        by_cases l1 : a.getD i 0 < b.getD i 0
        · simp only [if_pos l1]
          exact ev_ite_neg (by decide) (Ev.now _)
        · simp only [if_neg l1]
          by_cases l2 : a.getD i 0 > b.getD i 0
          · simp only [if_pos l2]
            exact ev_ite_neg (by decide) (Ev.now _)
          · simp only [if_neg l2]
            exact ev_ite_pos (by simp) h1
    · have c3 : (i : Int) ≥ (b.length : Int) := by omega
      rw [List.drop_of_length_le (by omega : b.length ≤ i)]
      refine Ev.step (f := fun _ => some 1) (fun k => ?_) (ev_fun (Ev.now _) rfl)
      simp only [slices_Compare_int_int.l0, if_pos c1, if_pos c2, if_pos c3]
theorem lex_irrefl : ∀ a, lexM a a = false
  | [] => rfl
  | x :: xs => by simp [lexM, lex_irrefl xs]
theorem lex_trans : ∀ a b c, lexM a b = true → lexM b c = true → lexM a c = true
  | [], [], _, h, _ => by simp [lexM] at h
  | [], _ :: _, [], _, h => by simp [lexM] at h
  | [], _ :: _, _ :: _, _, _ => rfl
  | _ :: _, [], _, h, _ => by simp [lexM] at h
  | _ :: _, _ :: _, [], _, h => by simp [lexM] at h
  | x :: xs, y :: ys, z :: zs, h, k => by
    simp only [lexM, Bool.or_eq_true, Bool.and_eq_true, decide_eq_true_eq] at h k ⊢
    rcases h with h | ⟨h1, h2⟩
    · rcases k with k | ⟨k1, k2⟩
      · exact .inl (by omega)
      · exact .inl (by omega)
    · rcases k with k | ⟨k1, k2⟩
      · exact .inl (by omega)
      · exact .inr ⟨by omega, lex_trans xs ys zs h2 k2⟩
theorem lex_total : ∀ a b, a.length = b.length → lexM a b = false → lexM b a = false → a = b
  | [], [], _, _, _ => rfl
  | [], _ :: _, h, _, _ => by simp at h
  | _ :: _, [], h, _, _ => by simp at h
  | x :: xs, y :: ys, hl, h, k => by
    simp only [lexM, Bool.or_eq_false_iff, Bool.and_eq_false_iff, decide_eq_false_iff_not] at h k
    have e : x = y := by omega
    subst e
    have h2 : lexM xs ys = false := by rcases h.2 with h | h; exact absurd rfl h; exact h
    have k2 : lexM ys xs = false := by rcases k.2 with h | h; exact absurd rfl h; exact h
    rw [lex_total xs ys (by simpa using hl) h2 k2]
theorem lex_asymm (a b : List Int) (h : lexM a b = true) : lexM b a = false := by
  cases hk : lexM b a with
  | false => rfl
  | true => have := lex_trans a b a h hk; rw [lex_irrefl] at this; exact absurd this (by decide)

end Go.Proofs.Ytbgibmngijomfaa.XOutOrder
