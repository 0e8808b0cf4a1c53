/- A function of a struct with a slice and of a slice, whose answer is proved by hand: what is to be shown of it. Any program. -/
import Derived.Test.YtjgpacfhokpfdaaSx24
set_option linter.unusedVariables false
namespace Go.Sx
open Go.RowKit

/-- Events as plain tuples. -/
abbrev Tup7 : Type := Int × Int × Int × Int × Int × Int × Int
/-- How many, from the first on, have just these heads. -/
def sameF {β : Type} : List (Tup7 × β) → List Tup7 → Nat
  | x :: xs, y :: ys => if x.1 = y then sameF xs ys + 1 else 0
  | _, _ => 0
/-- A list that is cut behind what agrees; whether something was cut. -/
def cutF {β : Type} (p a b d : Int) (xs : List (Tup7 × β)) (ys : List Tup7) : (Int × (Int × Int × Int) × List (Tup7 × β)) × Bool := ((p, (a, b, d), xs.take (sameF xs ys)), decide (sameF xs ys < xs.length))
def extCut (P : Nat) (tp : Ty) (V : Nat) (tv r : Ty) (F : Int → Int → Int → Int → List (el tp) → List (el tv) → el r) : ExtF := fun τ args h0 => match args, h0 with
  | [.v (.agg [.int .i64 p, .int .i64 a, .int .i64 b, .int .i64 d, c1]), .v (.one c2)], [] => match asRead (fun _ => none) P tp c1, asRead (fun _ => none) V tv c2 with
    | some xs, some ys => cond (decide (xs.length ≤ 1048576)) (cond (decide (ys.length ≤ 1048576)) (castT r τ (F p a b d xs ys)) none) none
    | _, _ => none
  | _, _ => none
section
variable {E : Env}
def CutDone (E : Env) (f P : Nat) (tp : Ty) (V : Nat) (tv r : Ty) (F : Int → Int → Int → Int → List (el tp) → List (el tv) → el r) : Prop := ∀ (p a b d : Int) (xs : List (el tp)) (ys : List (el tv)), xs.length ≤ 1048576 → ys.length ≤ 1048576 → ∀ (w0 : World) (ρ : Nat → Option Value) (Fz0 : Nat → Prop) (v1 v2 : Value),
  RelM w0 (Handed [] ρ) Fz0 (fun i => i < 0) (hpf []) ρ Fz0 w0 → KI w0 Fz0 (.sl P tp) xs [v1] → KI w0 Fz0 (.sl V tv) ys [v2] → ∀ ts, resTys E f = some ts →
  Calls E.P f #[.agg #[.int .i64 p, .int .i64 a, .int .i64 b, .int .i64 d, v1], v2] w0 fun en w => ∃ u, en = .returned u ∧ Back w0 Fz0 [] ρ [] ts r (F p a b d xs ys) u w
theorem extCut_ok {f P : Nat} {tp : Ty} {V : Nat} {tv r : Ty} {F : Int → Int → Int → Int → List (el tp) → List (el tv) → el r} (hmode : E.mode f = 0) (H : CutDone E f P tp V tv r F) : ∀ τ args h0 x, extCut P tp V tv r F τ args h0 = some x → FnOk E f τ args h0 x := by
  intro τ args h0 x hx ts hts w0 ρ Fz0 cargs R hargs
  unfold extCut at hx
  split at hx
  · rename_i p a b d c1 c2
    split at hx
    · rename_i xs ys hr1 hr2
      obtain ⟨hle1, hx⟩ := cond_some hx
      obtain ⟨hle2, hx⟩ := cond_some hx
      obtain ⟨rfl, rfl⟩ := castT_some hx
      obtain ⟨v, vs, hv, h1, h2⟩ := all2_cons hargs
      obtain ⟨v2, vs2, hv2, h3, h4⟩ := all2_cons h2
      obtain rfl : vs2 = [] := by cases vs2 with
        | nil => rfl
        | cons _ _ => exact h4.elim
      subst hv2
      obtain rfl : cargs = #[v, v2] := by cases cargs; simp_all
      obtain ⟨cv, rfl, hcv⟩ := h1
      obtain ⟨u0, t0, e0, g0, hcv⟩ := all2_cons hcv
      obtain ⟨u1, t1, e1, g1, hcv⟩ := all2_cons hcv
      obtain ⟨u2, t2, e2, g2, hcv⟩ := all2_cons hcv
      obtain ⟨u3, t3, e3, g3, hcv⟩ := all2_cons hcv
      obtain ⟨u4, t4, e4, g4, hcv⟩ := all2_cons hcv
      obtain rfl : t4 = [] := by cases t4 with
        | nil => rfl
        | cons _ _ => exact hcv.elim
      obtain rfl : u0 = .int .i64 p := g0
      obtain rfl : u1 = .int .i64 a := g1
      obtain rfl : u2 = .int .i64 b := g2
      obtain rfl : u3 = .int .i64 d := g3
      subst e4 e3 e2 e1
      obtain rfl : cv = #[.int .i64 p, .int .i64 a, .int .i64 b, .int .i64 d, u4] := by cases cv; simp_all
      have hid1 : ∀ id, c1 ≠ .o id := by rintro id rfl; simp [asRead, slc] at hr1
      have hid2 : ∀ id, c2 ≠ .o id := by rintro id rfl; simp [asRead, slc] at hr2
      have hk1 : KI w0 Fz0 (.sl P tp) xs [u4] := read_KI R (fun _ h => h) (by rw [hpf_nil]; exact hr1) g4 (fun id hc => absurd hc (hid1 id))
      have hk2 : KI w0 Fz0 (.sl V tv) ys [v2] := read_KI R (fun _ h => h) (by rw [hpf_nil]; exact hr2) h3 (fun id hc => absurd hc (hid2 id))
      have hrs : ∀ l, rsOf E f l = [] := fun l => by unfold rsOf; rw [hmode]; rfl
      rw [hrs]
      exact H p a b d xs ys (of_decide_eq_true hle1) (of_decide_eq_true hle2) w0 ρ Fz0 u4 v2 R hk1 hk2 ts hts
    · cases hx
  · cases hx
end
end Go.Sx
