/- Literal rows; stores; the operations that leave the memory as it is. Any program. -/
import Derived.Test.YtjgpacfhokpfdaaSx8
set_option linter.unusedVariables false
set_option linter.unusedSimpArgs false
namespace Go.Sx
open Go.RowKit

theorem run_buildSlice {P : Program} (w : World) (Tt e : TypeId) (i : TypeInfo) (z : Value) (len : Nat) (parts : Array (Nat × Value)) (ov : Array Value) (hu : P.underlying Tt = some (.slice e)) (hi : P.info? e = some i) (hz : i.zero = some z)
    (hle : len * i.size ≤ 16777216) (hf : Instr.fill (fun j => some (j * i.size, i.size)) (madeCells z.cells (len * i.size)) parts.toList = some ov) :
    (Instr.buildSlice Tt len parts).run P w = .ok (.slice (some ⟨w.heap.size, 0, none⟩) len len) (w.alloc (.cells ov e)) := by
  have hle' : ¬ (16777216 < len * i.size) := by omega
  by_cases h0 : len * i.size = 0
  · rw [h0] at hf hle'
    have hr0 : Array.range 0 = #[] := Array.eq_empty_of_size_eq_zero (by simp)
    rw [Array.eq_empty_of_size_eq_zero (size_madeCells z.cells 0)] at hf
    simp [Instr.buildSlice, run_underlying hu, sizeOf, typeInfo, hi, h0, hr0, hf, newRow]
  · have hf' : Instr.fill (fun j => some (j * i.size, i.size)) (Array.map (fun x => z.cells[x % z.cells.size]!) (Array.range (len * i.size))) parts.toList = some ov := hf
    simp [Instr.buildSlice, run_underlying hu, sizeOf, typeInfo, hi, h0, zeroValue, hz, hle', hf', newRow]
section
variable {E : Env} {w0 w : World} {T Fz0 Fz U : Nat → Prop} {h hr : Hp} {ρ : Nat → Option Value} {o : Oper} {a : Act}
/-- What is kept inside something else stays from now on. -/
theorem frz_ok (R : RelM w0 T Fz0 U h ρ Fz w) (hsub : ∀ id ob, hr id = some ob → h id = some ob) (cs : List AC) :
    ∃ Fz', RelM w0 T Fz0 U (updF h (frz hr cs)) ρ Fz' w ∧ Mono w ρ Fz w ρ Fz' ∧ (∀ b, Fz' b → Fz b ∨ ∃ id, id ∈ oIds cs ∧ Live h ρ id b) ∧ (∀ id ∈ oIds cs, ∀ b, LiveO hr ρ id b → Fz' b) := by
  have hin : ∀ p ∈ frz hr cs, p.1 ∈ oIds cs ∧ ∃ e t xs, RowO (hr p.1) e t xs ∧ p.2 = some (.fro e t xs) := frz_mem hr cs
  have hfro : ∀ id e t xs, id ∈ (frz hr cs).map (·.1) → RowO (hr id) e t xs → updF h (frz hr cs) id = some (.fro e t xs) := by
    intro id e t xs hi ho
    refine updF_all _ _ _ _ (fun p hp hid => ?_) (.inl hi)
    obtain ⟨_, e', t', xs', ho', hp2⟩ := hin p hp
    rw [hid] at ho'; rw [ho.fro ho']; exact hp2
  obtain ⟨Fz', R', m, h1, h2⟩ := R.freeze (oIds cs) (updF h (frz hr cs)) (fun id hn => updF_not _ _ _ fun hm => by
      obtain ⟨p, hp, rfl⟩ := List.mem_map.1 hm
      exact hn (hin p hp).1) (fun id hi => by
      by_cases hm : id ∈ (frz hr cs).map (·.1)
      · obtain ⟨p, hp, hpe⟩ := List.mem_map.1 hm
        obtain ⟨_, e, t, xs, ho, _⟩ := hin p hp
        rw [hpe] at ho
        exact .inr ⟨e, t, xs, ho.sub hsub, hfro id e t xs hm ho⟩
      · exact .inl (updF_not _ _ _ hm))
  refine ⟨Fz', R', m, h1, fun id hi b hl => ?_⟩
  obtain ⟨e, t, xs, v, ho, hid, hb⟩ := hl
  exact h2 id b ⟨e, t, xs, ho.sub hsub, hfro id e t xs (frz_has hr cs id e t xs hi ho) ho⟩ (LiveO.live ⟨e, t, xs, v, ho.sub hsub, hid, hb⟩)
theorem buildSlice_ok (EOK : EnvOk E) (R : RelM w0 T Fz0 U h ρ Fz w) (hsub : ∀ id ob, hr id = some ob → h id = some ob) {next : Nat} (hn : ¬ U next) {Tt : TypeId} {len : Nat} {parts : Array (Nat × Operand)} (ho : o.op = .buildSlice Tt len parts)
    {e : Nat} {t : Ty} (he : elemOf E Tt = some (e, t)) {z : List AC} (hz : zeroOf E e = some z) {ro : Operand → TV} (hp : ∀ p ∈ parts.toList, TVRep w ρ Fz (ro p.2) (a.eval p.2))
    {cs : List AC} (hf : fillP (fun i => some (i * E.P.cellsOf e, E.P.cellsOf e)) ((List.replicate len z).flatten) (parts.toList.map fun (i, x) => (i, ro x)) = some cs)
    {xs : List (el t)} (hx : decN hr t len cs = some xs) (hle : len * E.P.cellsOf e ≤ 16777216) :
    Done E w0 T Fz0 (fun i => U i ∨ i = next) (updF h (frz hr cs ++ [(next, some (.own e t xs))])) ρ Fz w o a (.c (.o next)) := by
  obtain ⟨hu, hty⟩ := elemOf_some he
  have ok := EOK e t hty
  obtain ⟨i, zv, hi, hz1, hz0⟩ := ok.zero
  obtain ⟨i', zv', hi', hz1', rfl⟩ := zeroOf_some hz
  rw [hi] at hi'; cases hi'
  rw [hz1] at hz1'; cases hz1'
  have hsz : i.size = sz t := by rw [← ok.sz]; simp [Program.cellsOf, hi]
  have hzs : zv.cells.size = sz t := by have := KI_len (hz0 w Fz); simpa using this
  have hmade := made_flat zv.cells len (by rw [hzs]; exact ok.pos)
  have hz2 : All2 (ACRep w ρ Fz) ((List.replicate len (zv.cells.toList.map ofConst1)).flatten) (madeCells zv.cells (len * zv.cells.size)).toList := by
    rw [hmade]
    have : (List.replicate len (zv.cells.toList.map ofConst1)).flatten = ((List.replicate len zv.cells.toList).flatten).map ofConst1 := by rw [List.map_flatten, List.map_replicate]
    rw [this]
    exact ofConsts_rep _
  obtain ⟨ov, hov, hrep⟩ := fill_ok _ (fun i => some (i * E.P.cellsOf e, E.P.cellsOf e)) (fun _ _ h => h) R parts.toList ro _ (madeCells zv.cells (len * zv.cells.size)) cs hp hz2 hf
  -- what is inside is frozen
  obtain ⟨Fz', R1, m1, hfz, hfz2⟩ := frz_ok R hsub cs
  obtain ⟨hxl, hrows⟩ := decN_Rows (Fz' := Fz') (R.less hsub) m1.fz ok.rd len cs xs ov.toList hx hrep hfz2
  have hsize : ov.size = len * sz t := by have := hrows.1; rw [hxl] at this; simpa using this
  have hbytes : len ≤ len * E.P.cellsOf e := Nat.le_mul_of_pos_right _ (by rw [ok.sz]; exact ok.pos)
  have hown := World.ownsRow_lit (base := 0) (e := e) w ov len (Nat.zero_le _) (by unfold maxLen; omega) hsize
  have mo := mono_alloc R1 next hn (.cells ov e) (.slice (some ⟨w.heap.size, 0, none⟩) len len)
  obtain ⟨R', m'⟩ := R1.fresh next hn (.own e t xs) (.cells ov e) (.slice (some ⟨w.heap.size, 0, none⟩) len len) rfl rfl (fun b hb => by cases hb; rfl)
    ⟨_, by rw [hxl]; exact hown, Rows_mono mo.fz mo.wd hrows⟩
  refine ⟨.slice (some ⟨w.heap.size, 0, none⟩) len len, _, _, Fz', .inl ?_, ?_, m1.trans m', ⟨_, if_pos rfl, rfl, rfl⟩⟩
  · have hco : E.P.cellsOf e = i.size := by simp [Program.cellsOf, hi]
    rw [hco] at hov hle
    rw [hzs, ← hsz] at hov
    have hr := run_buildSlice (P := E.P) w Tt e i zv len (parts.map fun (i, x) => (i, a.eval x)) ov hu hi hz1 hle (by rw [Array.toList_map]; exact hov)
    simp [execOp, ho, hr]
  · rw [updF_app]; exact R'
end
end Go.Sx
