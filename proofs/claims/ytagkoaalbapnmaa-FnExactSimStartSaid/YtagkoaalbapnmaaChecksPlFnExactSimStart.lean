/- Whether a state, events, and what is let out, are ok: the reference's checks and the program's are the same plain functions. -/
import Derived.Test.YtagkoaalbapnmaaFFnExactSimStart
import Derived.Test.YtagkoaalbapnmaaPl
set_option linter.unusedVariables false
set_option linter.unusedSimpArgs false
namespace Go.Proofs.Ytagkoaalbapnmaa.SFnExactSimStart
open Go Go.Sx Go.Pl

abbrev Ev7 := Int × Int × Int × Int × Int × Int × Int
abbrev Ou5 := Int × Int × Int × Int × Int
abbrev St3 := Int × Int × Int
abbrev Pa := Ev7 × St3 × List Ev7 × List Ou5
abbrev La := Int × St3 × List Pa

def inB (x a b : Int) : Bool := decide (a ≤ x) && decide (x ≤ b)
def stM (x : St3) : Bool := inB x.1 0 999 && (inB x.2.1 0 999 && inB x.2.2 0 12)
def evM (x : Ev7) : Bool := inB x.1 0 40 && (inB x.2.1 0 3 && (inB x.2.2.1 (-1) 3 && (inB x.2.2.2.1 0 12 && (inB x.2.2.2.2.1 0 3 && (inB x.2.2.2.2.2.1 0 3 && inB x.2.2.2.2.2.2 0 999)))))
def ouM (x : Ou5) : Bool := inB x.1 0 40 && (inB x.2.1 0 3 && (inB x.2.2.1 0 11 && (inB x.2.2.2.1 0 1 && inB x.2.2.2.2 0 999)))
/-- Less, number by number. -/
def lexM : List Int → List Int → Bool
  | x :: xs, y :: ys => decide (x < y) || (decide (x = y) && lexM xs ys)
  | [], _ :: _ => true
  | _, [] => false
def evL (x : Ev7) : List Int := [x.1, x.2.1, x.2.2.1, x.2.2.2.1, x.2.2.2.2.1, x.2.2.2.2.2.1, x.2.2.2.2.2.2]
def ouL (x : Ou5) : List Int := [x.1, x.2.1, x.2.2.1, x.2.2.2.1, x.2.2.2.2]
def lessE (x y : Ev7) : Bool := lexM (evL x) (evL y)
def lessO (x y : Ou5) : Bool := lexM (ouL x) (ouL y)
def eventsM (l : List Ev7) (n : Int) : Bool := decide ((l.length : Int) ≤ n) && listM evM lessE l
def outsM (l : List Ou5) (n : Int) : Bool := decide ((l.length : Int) ≤ n) && listM ouM lessO l

theorem specIn (k : Nat) (x a b : Int) : spec_l6In (k + 1) x a b = some (inB x a b) := by
  rw [spec_l6In_eq, cS, cA]; rfl
theorem implIn (k : Nat) (x a b : Int) : impl_within (k + 1) x a b = some (inB x a b) := by
  rw [impl_within_eq, cS, cA]; rfl
theorem specProc (k : Nat) (x : Int) : spec_l1Proc (k + 2) x = some (inB x 0 3) := by rw [spec_l1Proc_eq, specIn]; rfl
theorem implProc (k : Nat) (x : Int) : impl_isProc (k + 2) x = some (inB x 0 3) := by rw [impl_isProc_eq, implIn]; rfl
theorem lex_ne {x y : Int} {xs ys : List Int} (b : Bool) (h : x = y → b = lexM xs ys) : cond (x != y) (decide (x < y)) b = lexM (x :: xs) (y :: ys) := by
  unfold lexM
  by_cases hx : x = y
  · subst hx; simp [h]
  · have : (x != y) = true := by simpa using hx
    rw [this]; simp [hx]
theorem lex_last (x y : Int) : decide (x < y) = lexM [x] [y] := by unfold lexM; simp [lexM]
def cmpM : List Int → List Int → Int
  | [], [] => 0
  | [], _ :: _ => -1
  | _ :: _, [] => 1
  | x :: xs, y :: ys => if x < y then -1 else if x > y then 1 else cmpM xs ys
theorem cmpLex : ∀ a b, decide (cmpM a b < 0) = lexM a b
  | [], [] => rfl
  | [], _ :: _ => rfl
  | _ :: _, [] => rfl
  | x :: xs, y :: ys => by
    unfold cmpM lexM
    by_cases h1 : x < y
    · simp [h1]
    · by_cases h2 : x > y
      · have : ¬ x = y := by omega
        simp [h1, h2, this]
      · have : x = y := by omega
        subst this
        simp [cmpLex xs ys]
theorem cmpInt (k : Nat) (a b : Int) : cmp_Compare_int (k + 2) a b = some (if a < b then -1 else if a > b then 1 else 0) := by
  simp only [cmp_Compare_int_eq, cmp_isNaN_int_eq, Option.bind_some]
  simp
  by_cases h1 : a < b
  · simp [h1]
  · by_cases h2 : b < a <;> simp [h1, h2]
theorem compare_ev (a b : List Int) (h : a.length ≤ 1048576) : Ev (fun k => slices_Compare_int_int k a b) (cmpM a b) := by
  refine Ev.step (fun k => slices_Compare_int_int_eq k a b) ?_
  refine (EvL.ev (L := fun k j => slices_Compare_int_int_2 k j a b a (a.length : Int) 0) ?_)
  refine (loop_up (fun k j i => slices_Compare_int_int_2 k j a b a (a.length : Int) (i : Int)) a.length (fun i => cmpM (a.drop i) (b.drop i)) ?_ (fun i hi h1 => ?_) 0 (by omega)).to (by simp)
  · refine EvL.step (M := fun _ _ => cond (decide ((a.length : Int) < (b.length : Int))) (some (-1)) (some 0)) (fun k j => ?_) (EvL.cond (fun hl => (EvL.now _).to ?_) fun hl => (EvL.now _).to ?_)
    · rw [slices_Compare_int_int_2_eq, decide_eq_false (by omega)]; rfl
    · have hl : (a.length : Int) < (b.length : Int) := by simpa using hl
      rw [List.drop_length, getD_drop b 0 a.length (by omega)]; rfl
    · have hl : ¬ (a.length : Int) < (b.length : Int) := by simpa using hl
      rw [List.drop_length, List.drop_of_length_le (by omega)]; rfl
  · have c1 : (i : Int) < (a.length : Int) := by omega
    have c2 : (0 : Int) ≤ (i : Int) := by omega
    refine EvL.step (fun k j => slices_Compare_int_int_2_eq k j a b a _ _) ?_
    simp only [decide_eq_true c1, decide_eq_true c2, cond_true, Int.toNat_natCast, w64n i (by omega)]
    rw [getD_drop a (dflt t_int) i hi]
    refine EvL.cond (fun hb => (EvL.now _).to ?_) fun hb => ?_
    · have hb : (i : Int) ≥ (b.length : Int) := by simpa using hb
      rw [List.drop_of_length_le (by omega : b.length ≤ i)]; rfl
    · have hb : (i : Int) < (b.length : Int) := by simpa using hb
      simp only [decide_eq_true hb, cond_true]
      rw [getD_drop b (dflt t_int) i (by omega)]
      refine EvL.bind (Ev.of 2 fun m => cmpInt m _ _) ?_
      generalize a.getD i (dflt t_int) = x
      generalize b.getD i (dflt t_int) = y
      unfold cmpM
      by_cases l1 : x < y
      · simp only [if_pos l1]; exact EvL.now _
      · by_cases l2 : x > y
        · simp only [if_neg l1, if_pos l2]; exact EvL.now _
        · simp only [if_neg l1, if_neg l2, bne_self_eq_false, cond_false]; exact h1
/-! ### lists of them -/
theorem dec_gt (i : Nat) : decide ((i : Int) > 0) = decide (0 < i) := by congr 1; exact propext (by omega)
end Go.Proofs.Ytagkoaalbapnmaa.SFnExactSimStart
