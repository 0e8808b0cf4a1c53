/- The operations, one by one: where the plain machine goes on, Go's does the same. Any program. -/
import Derived.Test.YtjgpacfhokpfdaaSx5
set_option linter.unusedVariables false
set_option linter.unusedSimpArgs false
namespace Go.Sx
open Go.RowKit

/-! ### loads -/
section
variable {E : Env} {w : World} {ρ : Nat → Option Value} {Fz : Nat → Prop}
theorem isAgg_run {t : TypeId} {d : TypeDesc} (ht : E.P.underlying t = some d) (w : World) : (isAgg t).run E.P w = .ok (isAggT E t) w := by
  unfold Go.isAgg isAggT
  simp only [Sem.run_bind, run_underlying ht, Result.andThen_ok, ht]
  cases d <;> rfl
theorem info_of_under {P : Program} {t : TypeId} {d : TypeDesc} (ht : P.underlying t = some d) : ∃ i, P.info? t = some i ∧ P.cellsOf t = i.size ∧ P.bytesOf t = i.bytes := by
  unfold Program.underlying at ht
  cases hi : P.info? t with
  | none => rw [hi] at ht; cases ht
  | some i => exact ⟨i, rfl, by simp [Program.cellsOf, hi], by simp [Program.bytesOf, hi]⟩
theorem sizeOf_run {t : TypeId} {d : TypeDesc} (ht : E.P.underlying t = some d) (w : World) : (sizeOf t).run E.P w = .ok (E.P.cellsOf t) w := by
  obtain ⟨i, hi, hc, _⟩ := info_of_under ht
  simp [sizeOf, typeInfo, hi, hc]
/-- The cells from an address on. -/
def CellsAt (w : World) (g o : Nat) (vs : List Value) : Prop := ∀ j u, vs[j]? = some u → w.cell? ⟨g, o + j, none⟩ = some u
theorem load_part {T : TypeId} {acs : List AC} {vs : List Value} {off : Nat} {a : AV} {g o : Nat} (hp : partC E T acs off = some a) (hc : CellsAt w g o vs) (hr : All2 (ACRep w ρ Fz) acs vs) :
    ∃ v, (loadVar T ⟨g, o + off, none⟩).run E.P w = .ok v w ∧ AVRep w ρ Fz a v := by
  unfold partC at hp
  cases ht : E.P.underlying T with
  | none => rw [ht] at hp; cases hp
  | some d =>
    rw [ht] at hp
    simp only at hp
    cases hag : isAggT E T with
    | true =>
      rw [hag] at hp
      simp only [cond_true] at hp
      cases hle : Nat.ble (off + E.P.cellsOf T) acs.length with
      | false => rw [hle] at hp; cases hp
      | true =>
        rw [hle] at hp
        simp only [cond_true, Option.some.injEq] at hp
        subst hp
        have hle' := Nat.le_of_ble_eq_true hle
        have hlen := hr.len
        have hl : ((vs.drop off).take (E.P.cellsOf T)).length = E.P.cellsOf T := by rw [List.length_take, List.length_drop]; omega
        have hld := run_loadCells_list (P := E.P) w ⟨g, o + off, none⟩ ((vs.drop off).take (E.P.cellsOf T)) (fun j v hj => by
          rw [List.getElem?_take] at hj
          split at hj
          · rw [List.getElem?_drop] at hj
            rw [Addr.add_lit, Nat.add_assoc]
            exact hc _ _ hj
          · cases hj)
        rw [hl] at hld
        refine ⟨.agg ((vs.drop off).take (E.P.cellsOf T)).toArray, ?_, ⟨_, rfl, by simpa using (hr.drop off).take (E.P.cellsOf T)⟩⟩
        unfold loadVar
        simp only [Sem.run_bind, isAgg_run ht, hag, Result.andThen_ok, if_true, sizeOf_run ht, hld, Sem.run_pure]
    | false =>
      rw [hag] at hp
      simp only [cond_false] at hp
      cases hg : acs[off]? with
      | none => rw [hg] at hp; cases hp
      | some c =>
        rw [hg] at hp
        simp only [Option.some.injEq] at hp
        subst hp
        obtain ⟨v, hv, hrep⟩ := hr.get hg
        refine ⟨v, ?_, hrep⟩
        unfold loadVar
        simp only [Sem.run_bind, isAgg_run ht, hag, Result.andThen_ok, if_false, Bool.false_eq_true]
        simp [hc off v hv]
end

/-! ### what an operation leaves -/
structure Done (E : Env) (w0 : World) (T Fz0 U' : Nat → Prop) (h' : Hp) (ρ : Nat → Option Value) (Fz : Nat → Prop) (w : World) (o : Oper) (a : Act) (val : TV) : Prop where
  out : ∃ v w' ρ' Fz', ((execOp a.eval o).run E.P w = .ok (.value v) w' ∨ ((execOp a.eval o).run E.P w = .ok .skip w' ∧ v = undef)) ∧
    RelM w0 T Fz0 U' h' ρ' Fz' w' ∧ Mono w ρ Fz w' ρ' Fz' ∧ TVRep w' ρ' Fz' val v
section
variable {E : Env} {w0 w : World} {T Fz0 Fz U U' : Nat → Prop} {h hr : Hp} {ρ : Nat → Option Value} {o : Oper} {a : Act} {val : TV}
/-- The memory stays as it is. -/
theorem Done.same (R : RelM w0 T Fz0 U h ρ Fz w) {v : Value} (he : (execOp a.eval o).run E.P w = .ok (.value v) w) (hv : TVRep w ρ Fz val v) : Done E w0 T Fz0 U h ρ Fz w o a val :=
  ⟨v, w, ρ, Fz, .inl he, R, Mono.refl .., hv⟩
/-- What the interpreter knows of an operand, Go's has. -/
def Ops (w : World) (ρ : Nat → Option Value) (Fz : Nat → Prop) (ro : Operand → TV) (a : Act) (o : Oper) : Prop := ∀ x ∈ o.op.operands, TVRep w ρ Fz (ro x) (a.eval x)
/-- A new variable or row. -/
theorem RelM.fresh (R : RelM w0 T Fz0 U h ρ Fz w) (id1 : Nat) (hn : ¬ U id1) (o1 : Obj) (ob : Go.Obj) (v1 : Value) (hmut : o1.wr = true) (hone : v1.oneCell' = true) (hb : ∀ b, BlkOf v1 b → b = w.heap.size)
    (hrep : ObjRep (w.alloc ob) (fun i => if i = id1 then some v1 else ρ i) Fz v1 o1) :
    RelM w0 T Fz0 (fun i => U i ∨ i = id1) (updF h [(id1, some o1)]) (fun i => if i = id1 then some v1 else ρ i) Fz (w.alloc ob) ∧ Mono w ρ Fz (w.alloc ob) (fun i => if i = id1 then some v1 else ρ i) Fz := by
  have hnone : ρ id1 = none := by
    cases hρ : ρ id1 with
    | none => rfl
    | some v => exact absurd (R.dom id1 v hρ).1 hn
  refine R.put (row := none) (World.grownBy_alloc w ob none) id1 o1 v1 hmut hone (fun b hb => by cases hb) (.inl hnone) (fun b hb' => .inl ?_) (fun i hi => .inl hi) (.inr rfl) (by simp [updF]) (fun id o hne ho => by simpa [updF, hne] using ho) hrep
  cases hb b hb'
  exact ⟨Nat.le_refl _, by simp⟩
theorem mono_alloc (R : RelM w0 T Fz0 U h ρ Fz w) (id1 : Nat) (hn : ¬ U id1) (ob : Go.Obj) (v1 : Value) : Mono w ρ Fz (w.alloc ob) (fun i => if i = id1 then some v1 else ρ i) Fz := by
  refine ⟨fun id v e => ?_, fun _ hb => hb, fun b hb => Below.heap_alloc w ob b (R.fzlt b hb)⟩
  by_cases hi : id = id1
  · subst hi; exact absurd (R.dom id v e).1 hn
  · simp only [if_neg hi]; exact .inl e
end
end Go.Sx
