/- Whether a state, events, and what is let out, are ok: the reference's checks and the program's are the same plain functions. -/
import Derived.Test.YtiabhdebjajgiaaFFnSlotOther
import Derived.Test.YtiabhdebjajgiaaPl
set_option linter.unusedVariables false
set_option linter.unusedSimpArgs false
namespace Go.Proofs.Ytiabhdebjajgiaa.SFnSlotOther
open Go Go.Sx Go.Pl

abbrev Ev7 := Int × Int × Int × Int × Int × Int × Int
abbrev Ou5 := Int × Int × Int × Int × Int
abbrev St3 := Int × Int × Int
abbrev Pa := Ev7 × St3 × List Ev7 × List Ou5
abbrev La := Int × St3 × List Pa

def inB (x a b : Int) : Bool := decide (a ≤ x) && decide (x ≤ b)
def stM (x : St3) : Bool := inB x.1 0 999 && (inB x.2.1 0 999 && inB x.2.2 0 12)
def evM (x : Ev7) : Bool := inB x.1 0 40 && (inB x.2.1 0 3 && (inB x.2.2.1 (-1) 3 && (inB x.2.2.2.1 0 12 && (inB x.2.2.2.2.1 0 3 && (inB x.2.2.2.2.2.1 0 3 && inB x.2.2.2.2.2.2 0 999)))))
def ouM (x : Ou5) : Bool := inB x.1 0 40 && (inB x.2.1 0 3 && (inB x.2.2.1 0 11 && (inB x.2.2.2.1 0 1 && inB x.2.2.2.2 0 999)))
/-- Less, number by number. -/
def lexM : List Int → List Int → Bool
  | x :: xs, y :: ys => decide (x < y) || (decide (x = y) && lexM xs ys)
  | [], _ :: _ => true
  | _, [] => false
def evL (x : Ev7) : List Int := [x.1, x.2.1, x.2.2.1, x.2.2.2.1, x.2.2.2.2.1, x.2.2.2.2.2.1, x.2.2.2.2.2.2]
def ouL (x : Ou5) : List Int := [x.1, x.2.1, x.2.2.1, x.2.2.2.1, x.2.2.2.2]
def lessE (x y : Ev7) : Bool := lexM (evL x) (evL y)
def lessO (x y : Ou5) : Bool := lexM (ouL x) (ouL y)
def eventsM (l : List Ev7) (n : Int) : Bool := decide ((l.length : Int) ≤ n) && listM evM lessE l
def outsM (l : List Ou5) (n : Int) : Bool := decide ((l.length : Int) ≤ n) && listM ouM lessO l

theorem specIn (k : Nat) (x a b : Int) : spec_l6In (k + 1) x a b = some (inB x a b) := by
  rw [spec_l6In_eq, cS, cA]; rfl
theorem implIn (k : Nat) (x a b : Int) : impl_within (k + 1) x a b = some (inB x a b) := by
  rw [impl_within_eq, cS, cA]; rfl
theorem lex_ne {x y : Int} {xs ys : List Int} (b : Bool) (h : x = y → b = lexM xs ys) : cond (x != y) (decide (x < y)) b = lexM (x :: xs) (y :: ys) := by
  unfold lexM
  by_cases hx : x = y
  · subst hx; simp [h]
  · have : (x != y) = true := by simpa using hx
    rw [this]; simp [hx]
theorem lex_last (x y : Int) : decide (x < y) = lexM [x] [y] := by unfold lexM; simp [lexM]
def cmpM : List Int → List Int → Int
  | [], [] => 0
  | [], _ :: _ => -1
  | _ :: _, [] => 1
  | x :: xs, y :: ys => if x < y then -1 else if x > y then 1 else cmpM xs ys
theorem cmpLex : ∀ a b, decide (cmpM a b < 0) = lexM a b
  | [], [] => rfl
  | [], _ :: _ => rfl
  | _ :: _, [] => rfl
  | x :: xs, y :: ys => by
    unfold cmpM lexM
    by_cases h1 : x < y
    · simp [h1]
    · by_cases h2 : x > y
      · have : ¬ x = y := by omega
        simp [h1, h2, this]
      · have : x = y := by omega
        subst this
        simp [cmpLex xs ys]
/-! ### lists of them -/
theorem dec_gt (i : Nat) : decide ((i : Int) > 0) = decide (0 < i) := by congr 1; exact propext (by omega)
end Go.Proofs.Ytiabhdebjajgiaa.SFnSlotOther
