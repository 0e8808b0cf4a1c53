/- A function of a struct of two slots and of a slice of numbers, whose answer is proved by hand: what is to be shown of it. Any program. -/
import Derived.Test.YtiabhdebjajgiaaSx24
set_option linter.unusedVariables false
namespace Go.Sx
open Go.RowKit

def inN (v lo hi : Int) : Bool := decide (v ≥ lo) && decide (v ≤ hi)
def numsF (l : List Int) : Bool := l.all fun x => inN x (-1) 9999
def secF (l : List Int) : Bool := !decide ((l.length : Int) > 8) && numsF l
def slotF (n c : Int) (d : List (List Int)) : Bool := inN n 0 9999 && (inN c 0 1280 && (decide (d.length = 160) && d.all secF))
def diskF (na ca : Int) (da : List (List Int)) (nb cb : Int) (db : List (List Int)) : Bool := slotF na ca da && (slotF nb cb db && (na != nb || na == 0))
/-- A step of a save as a plain tuple. -/
abbrev StepF : Type := Bool × Int × Int × Int × List Int
def nCh (len : Nat) : Nat := (len + 7) / 8
def chKey (sec : Bool) (ns : List Int) (i : Nat) (c : Nat) : StepF := (sec, (i : Int), 0, 0, (ns.drop (8 * c)).take 8)
def keysTo (sec : Bool) (ns : List Int) (l : List Nat) : List StepF := (sec, -1, 0, 0, []) :: l.mapIdx (chKey sec ns)
def keysOf (sec : Bool) (num : Int) (ns : List Int) : List StepF := keysTo sec ns (List.range (nCh ns.length)) ++ [(sec, -1, num, (ns.length : Int), [])]
/-- What a save answers. -/
def saveF (na ca : Int) (da : List (List Int)) (nb cb : Int) (db : List (List Int)) (ns : List Int) : List StepF × Bool :=
  cond (cond (diskF na ca da nb cb db && decide (ns.length ≤ 1280) && numsF ns) (decide ((if na < nb then nb else na) < 9999)) false) (keysOf (!decide (na < nb)) ((if na < nb then nb else na) + 1) ns, true) ([], false)
abbrev tI : Ty := .int .i64
abbrev tStepF (I : Nat) : Ty := .pair .bool (.pair tI (.pair tI (.pair tI (.sl I tI))))
abbrev tSaveF (I P : Nat) : Ty := .pair (.dw P (tStepF I)) .bool
def extSave (I S P : Nat) : ExtF := fun τ args h0 => match args, h0 with
  | [.v (.agg [.int .i64 na, .int .i64 ca, c1, .int .i64 nb, .int .i64 cb, c2]), .v (.one c3)], [] => match asRead (fun _ => none) S (.sl I tI) c1, asRead (fun _ => none) S (.sl I tI) c2, asRead (fun _ => none) I tI c3 with
    | some da, some db, some ns => castT (tSaveF I P) τ (saveF na ca da nb cb db ns)
    | _, _, _ => none
  | _, _ => none
section
variable {E : Env}
def SaveDone (E : Env) (f I S P : Nat) : Prop := ∀ (na ca nb cb : Int) (da db : List (List Int)) (ns : List Int) (w0 : World) (ρ : Nat → Option Value) (Fz0 : Nat → Prop) (v1 v2 v3 : Value),
  RelM w0 (Handed [] ρ) Fz0 (fun i => i < 0) (hpf []) ρ Fz0 w0 → KI w0 Fz0 (.sl S (.sl I tI)) da [v1] → KI w0 Fz0 (.sl S (.sl I tI)) db [v2] → KI w0 Fz0 (.sl I tI) ns [v3] → ∀ ts, resTys E f = some ts →
  Calls E.P f #[.agg #[.int .i64 na, .int .i64 ca, v1, .int .i64 nb, .int .i64 cb, v2], v3] w0 fun en w => ∃ u, en = .returned u ∧ Back w0 Fz0 [] ρ [] ts (tSaveF I P) (saveF na ca da nb cb db ns) u w
theorem extSave_ok {f I S P : Nat} (hmode : E.mode f = 0) (H : SaveDone E f I S P) : ∀ τ args h0 x, extSave I S P τ args h0 = some x → FnOk E f τ args h0 x := by
  intro τ args h0 x hx ts hts w0 ρ Fz0 cargs R hargs
  unfold extSave at hx
  split at hx
  · rename_i na ca c1 nb cb c2 c3
    split at hx
    · rename_i da db ns hr1 hr2 hr3
      obtain ⟨rfl, rfl⟩ := castT_some hx
      obtain ⟨v, vs, hv, h1, h2⟩ := all2_cons hargs
      obtain ⟨v2, vs2, hv2, h3, h4⟩ := all2_cons h2
      obtain rfl : vs2 = [] := by cases vs2 with
        | nil => rfl
        | cons _ _ => exact h4.elim
      subst hv2
      obtain rfl : cargs = #[v, v2] := by cases cargs; simp_all
      obtain ⟨cv, rfl, hcv⟩ := h1
      obtain ⟨u0, t0, e0, g0, hcv⟩ := all2_cons hcv
      obtain ⟨u1, t1, e1, g1, hcv⟩ := all2_cons hcv
      obtain ⟨u2, t2, e2, g2, hcv⟩ := all2_cons hcv
      obtain ⟨u3, t3, e3, g3, hcv⟩ := all2_cons hcv
      obtain ⟨u4, t4, e4, g4, hcv⟩ := all2_cons hcv
      obtain ⟨u5, t5, e5, g5, hcv⟩ := all2_cons hcv
      obtain rfl : t5 = [] := by cases t5 with
        | nil => rfl
        | cons _ _ => exact hcv.elim
      obtain rfl : u0 = .int .i64 na := g0
      obtain rfl : u1 = .int .i64 ca := g1
      obtain rfl : u3 = .int .i64 nb := g3
      obtain rfl : u4 = .int .i64 cb := g4
      subst e5 e4 e3 e2 e1
      obtain rfl : cv = #[.int .i64 na, .int .i64 ca, u2, .int .i64 nb, .int .i64 cb, u5] := by cases cv; simp_all
      have hid : ∀ {α : Type} (c : AC) (e : Nat) (t : Ty) (xs : List (el t)), asRead (fun _ => none) e t c = some xs → ∀ id, c ≠ .o id := by rintro α c e t xs h id rfl; simp [asRead, slc] at h
      have hk1 : KI w0 Fz0 (.sl S (.sl I tI)) da [u2] := read_KI R (fun _ h => h) (by rw [hpf_nil]; exact hr1) g2 (fun id hc => absurd hc (hid (α := Unit) _ _ _ _ hr1 id))
      have hk2 : KI w0 Fz0 (.sl S (.sl I tI)) db [u5] := read_KI R (fun _ h => h) (by rw [hpf_nil]; exact hr2) g5 (fun id hc => absurd hc (hid (α := Unit) _ _ _ _ hr2 id))
      have hk3 : KI w0 Fz0 (.sl I tI) ns [v2] := read_KI R (fun _ h => h) (by rw [hpf_nil]; exact hr3) h3 (fun id hc => absurd hc (hid (α := Unit) _ _ _ _ hr3 id))
      have hrs : ∀ l, rsOf E f l = [] := fun l => by unfold rsOf; rw [hmode]; rfl
      rw [hrs]
      exact H na ca nb cb da db ns w0 ρ Fz0 u2 u5 v2 R hk1 hk2 hk3 ts hts
    · cases hx
  · cases hx
end
end Go.Sx
