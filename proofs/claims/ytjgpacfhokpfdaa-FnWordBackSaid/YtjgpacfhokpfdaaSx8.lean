/- The operations that make or write variables and rows. Any program. -/
import Derived.Test.YtjgpacfhokpfdaaSx7
import Derived.Laws.StructEq
set_option linter.unusedVariables false
set_option linter.unusedSimpArgs false
namespace Go.Sx
open Go.RowKit

section
variable {E : Env} {w0 w : World} {T Fz0 Fz U : Nat → Prop} {h hr : Hp} {ρ : Nat → Option Value} {o : Oper} {a : Act}
theorem ofConst1_rep (v : Value) : ACRep w ρ Fz (ofConst1 v) v := by
  cases v with
  | int k n => exact rfl
  | bool b => exact rfl
  | string s => exact rfl
  | pointer a => cases a <;> first | exact rfl | exact trivial
  | slice a n c =>
    cases a with
    | some a => exact trivial
    | none =>
      show ACRep w ρ Fz (cond (Nat.beq n 0 && Nat.beq c 0) .nilsl .undef) _
      cases hb : Nat.beq n 0 && Nat.beq c 0 with
      | false => exact trivial
      | true =>
        simp only [Bool.and_eq_true] at hb
        have h1 := Nat.eq_of_beq_eq_true hb.1
        have h2 := Nat.eq_of_beq_eq_true hb.2
        subst h1; subst h2; exact rfl
  | func fn fi ca =>
    cases fn with
    | func f =>
      show ACRep w ρ Fz (cond (Nat.beq fi.size 0 && Nat.beq ca.size 0) (.fn f []) .undef) _
      cases hb : Nat.beq fi.size 0 && Nat.beq ca.size 0 with
      | false => exact trivial
      | true =>
        simp only [Bool.and_eq_true] at hb
        have h1 := Array.eq_empty_of_size_eq_zero (Nat.eq_of_beq_eq_true hb.1)
        have h2 := Array.eq_empty_of_size_eq_zero (Nat.eq_of_beq_eq_true hb.2)
        subst h1; subst h2; exact ⟨#[], (fnV_nil f).symm, trivial⟩
    | _ => exact trivial
  | nilIface => exact ⟨#[.bool true], rfl, rfl, trivial⟩
  | _ => exact trivial
theorem ofConsts_rep (vs : List Value) : All2 (ACRep w ρ Fz) (vs.map ofConst1) vs := by
  induction vs with
  | nil => trivial
  | cons v vs ih => exact ⟨ofConst1_rep v, ih⟩
theorem ofConst_rep (v : Value) : TVRep w ρ Fz (ofConst v) v := by
  unfold ofConst
  split
  · exact ⟨_, rfl, ofConsts_rep _⟩
  · trivial
  · exact ofConst1_rep v
theorem zeroOf_some {t : TypeId} {cs : List AC} (hz : zeroOf E t = some cs) : ∃ i z, E.P.info? t = some i ∧ i.zero = some z ∧ cs = z.cells.toList.map ofConst1 := by
  unfold zeroOf at hz
  cases hi : E.P.info? t with
  | none => rw [hi] at hz; cases hz
  | some i =>
    rw [hi] at hz
    simp only at hz
    cases hv : i.zero with
    | none => rw [hv] at hz; cases hz
    | some z => rw [hv] at hz; cases hz; exact ⟨i, z, rfl, hv, rfl⟩

/-- A new variable. -/
theorem box_ok (R : RelM w0 T Fz0 U h ρ Fz w) {next : Nat} (hn : ¬ U next) {Tt : TypeId} {cs : List AC} {cv : Array Value} (hcs : All2 (ACRep w ρ Fz) cs cv.toList)
    (hexe : (execOp a.eval o).run E.P w = .ok (.value (.pointer (some ⟨w.heap.size, 0, none⟩))) (w.alloc (.cells cv Tt))) :
    Done E w0 T Fz0 (fun i => U i ∨ i = next) (updF h [(next, some (.box Tt cs))]) ρ Fz w o a (.c (.p next 0)) := by
  have m := mono_alloc R next hn (.cells cv Tt) (.pointer (some ⟨w.heap.size, 0, none⟩))
  obtain ⟨R', m'⟩ := R.fresh next hn (.box Tt cs) (.cells cv Tt) (.pointer (some ⟨w.heap.size, 0, none⟩)) rfl rfl (fun b hb => by cases hb; rfl)
    ⟨w.heap.size, cv, rfl, heap_alloc_new w _, hcs.imp fun _ _ => ACRep_mono m⟩
  exact ⟨_, _, _, Fz, .inl hexe, R', m', ⟨w.heap.size, by simp, rfl⟩⟩
theorem alloc_ok (R : RelM w0 T Fz0 U h ρ Fz w) {next : Nat} (hn : ¬ U next) {Tt : TypeId} (ho : o.op = .alloc Tt) {cs : List AC} (hz : zeroOf E Tt = some cs) :
    Done E w0 T Fz0 (fun i => U i ∨ i = next) (updF h [(next, some (.box Tt cs))]) ρ Fz w o a (.c (.p next 0)) := by
  obtain ⟨i, z, hi, hz', rfl⟩ := zeroOf_some hz
  refine box_ok R hn (ofConsts_rep _) ?_
  simp [execOp, ho, Instr.alloc, zeroValue, typeInfo, hi, hz', newVar, newRow]
theorem boxop_ok (R : RelM w0 T Fz0 U h ρ Fz w) {next : Nat} (hn : ¬ U next) {Tt : TypeId} {x : Operand} (ho : o.op = .box Tt x) {cs : List AC} (hx : All2 (ACRep w ρ Fz) cs (a.eval x).cells.toList) :
    Done E w0 T Fz0 (fun i => U i ∨ i = next) (updF h [(next, some (.box Tt cs))]) ρ Fz w o a (.c (.p next 0)) := by
  refine box_ok R hn hx ?_
  simp [execOp, ho, Instr.box, newVar, newRow]
theorem one_cells {v : Value} (h : v.oneCell' = true) : v.cells = #[v] := by
  cases v <;> simp [Value.oneCell'] at h <;> rfl
theorem R_one (R : RelM w0 T Fz0 U h ρ Fz w) : ∀ id u, ρ id = some u → u.oneCell' = true := fun id u e => (R.dom id u e).2
theorem AV_cells (R : RelM w0 T Fz0 U h ρ Fz w) {x : AV} {v : Value} (hx : AVRep w ρ Fz x v) (hu : ∀ c, x = .one c → c.isU = false) : All2 (ACRep w ρ Fz) x.cells v.cells.toList := by
  cases x with
  | one c =>
    have h1 := ACRep_one hx (hu c rfl) (R_one R)
    rw [one_cells h1]
    exact ⟨hx, trivial⟩
  | agg cs => obtain ⟨cv, rfl, hc⟩ := hx; exact hc

/-! literals -/
theorem setAt_len : ∀ (us : List AC) (cs : List AC) (off : Nat), (setAt cs off us).length = cs.length
  | [], cs, off => rfl
  | u :: us, cs, off => by rw [setAt, setAt_len us]; simp
theorem setAt_rep {Q : AC → Value → Prop} : ∀ (us : List AC) (uv : List Value) (cs : List AC) (cv : List Value) (off : Nat), All2 Q us uv → All2 Q cs cv → off + us.length ≤ cs.length → All2 Q (setAt cs off us) (cv.take off ++ uv ++ cv.drop (off + uv.length))
  | [], [], cs, cv, off, _, hc, _ => by simpa [setAt] using hc
  | u :: us, v :: uv, cs, cv, off, hu, hc, hl => by
    have hlen := hc.len
    have ih := setAt_rep us uv (cs.set off u) (cv.set off v) (off + 1) hu.2 (hc.set off hu.1) (by simp at hl ⊢; omega)
    rw [setAt]
    have e := list_seg_step cv off v uv (by have := hu.2.len; simp at hl; omega)
    rw [e] at ih
    simpa [Nat.add_assoc, Nat.add_comm 1] using ih
  | [], _ :: _, _, _, _, hu, _, _ => hu.elim
  | _ :: _, [], _, _, _, hu, _, _ => hu.elim
theorem foldl_set : ∀ (vs : List Value) (k : Nat) (cs : Array Value) (off : Nat), off + k + vs.length ≤ cs.size →
    ((vs.zipIdx k).foldl (fun cs (p : Value × Nat) => cs.setIfInBounds (off + p.2) p.1) cs).toList = cs.toList.take (off + k) ++ vs ++ cs.toList.drop (off + k + vs.length)
  | [], k, cs, off, _ => by simp
  | v :: vs, k, cs, off, hl => by
    rw [List.zipIdx_cons, List.foldl_cons, foldl_set vs (k + 1) _ off (by simp at hl ⊢; omega)]
    have e := list_seg_step cs.toList (off + k) v vs (by simp at hl ⊢; omega)
    simp only [Array.toList_setIfInBounds]
    rw [← Nat.add_assoc, e]
    simp [Nat.add_assoc]
/-- A literal's parts, put to their places. -/
theorem fill_ok (place place' : Nat → Option (Nat × Nat)) (hpl : ∀ i p, place i = some p → place' i = some p) (R : RelM w0 T Fz0 U h ρ Fz w) : ∀ (parts : List (Nat × Operand)) (ro : Operand → TV) (cs : List AC) (cv : Array Value) (out : List AC),
    (∀ p ∈ parts, TVRep w ρ Fz (ro p.2) (a.eval p.2)) → All2 (ACRep w ρ Fz) cs cv.toList → fillP place cs (parts.map fun (i, x) => (i, ro x)) = some out →
    ∃ ov, Instr.fill place' cv (parts.map fun (i, x) => (i, a.eval x)) = some ov ∧ All2 (ACRep w ρ Fz) out ov.toList
  | [], ro, cs, cv, out, _, hc, hf => by
    simp only [List.map_nil, fillP, Option.some.injEq] at hf
    subst hf
    exact ⟨cv, rfl, hc⟩
  | (i, x) :: parts, ro, cs, cv, out, hp, hc, hf => by
    have hx := hp (i, x) List.mem_cons_self
    simp only [List.map_cons] at hf
    cases hv : ro x with
    | tup vs => rw [hv] at hf; simp [fillP] at hf
    | v av =>
      rw [hv] at hf hx
      simp only [fillP] at hf
      cases hpi : place i with
      | none => rw [hpi] at hf; cases hf
      | some p =>
        obtain ⟨off, n⟩ := p
        rw [hpi] at hf
        simp only at hf
        cases hb : (Nat.beq av.cells.length n && Nat.ble (off + n) cs.length && !(av.cells.any AC.isU)) with
        | false => rw [hb] at hf; cases hf
        | true =>
          rw [hb] at hf
          simp only [cond_true] at hf
          simp only [Bool.and_eq_true, Bool.not_eq_true'] at hb
          obtain ⟨⟨h1, h2⟩, h3⟩ := hb
          have h1 := Nat.eq_of_beq_eq_true h1
          have h2 := Nat.le_of_ble_eq_true h2
          have hcells : All2 (ACRep w ρ Fz) av.cells (a.eval x).cells.toList := AV_cells R hx (fun c hc => by
            subst hc
            simpa [AV.cells] using h3)
          have hl1 : (a.eval x).cells.size = n := by have := hcells.len; simp at this; omega
          have hl2 : cv.size = cs.length := by have := hc.len; simpa using this.symm
          have hset := setAt_rep av.cells _ cs cv.toList off hcells hc (by omega)
          have hfold := foldl_set (a.eval x).cells.toList 0 cv off (by simp; omega)
          simp only [Nat.add_zero] at hfold
          rw [← hfold] at hset
          obtain ⟨ov, hov, hrep⟩ := fill_ok place place' hpl R parts ro (setAt cs off av.cells) ((a.eval x).cells.toList.zipIdx.foldl (fun cs (p : Value × Nat) => cs.setIfInBounds (off + p.2) p.1) cv) out (fun p hp' => hp p (List.mem_cons_of_mem _ hp')) hset hf
          refine ⟨ov, ?_, hrep⟩
          simp only [List.map_cons, Instr.fill, hpl i _ hpi]
          rw [if_neg (by simp; omega)]
          rw [← hov]
          congr 1
          rw [← Array.foldl_toList]
          simp [Array.toList_zipIdx]
theorem placesL_eq : ∀ {fs : List Field} {pl : List (Nat × Nat)}, placesL E fs = some pl → fs.mapM (fun f => (E.P.info? f.type).map fun i => (f.offset, i.size)) = some pl
  | [], pl, h => by simp [placesL] at h; subst h; simp
  | f :: r, pl, h => by
    simp only [placesL] at h
    cases hi : E.P.info? f.type with
    | none => rw [hi] at h; cases h
    | some i =>
      cases hr : placesL E r with
      | none => rw [hi, hr] at h; cases h
      | some l =>
        rw [hi, hr] at h
        simp only [Option.some.injEq] at h
        subst h
        simp [List.mapM_cons, hi, placesL_eq hr]
theorem build_ok (R : RelM w0 T Fz0 U h ρ Fz w) {t : TypeId} {parts : Array (Nat × Operand)} (ho : o.op = .build t parts) {fs : Array Field} (hu : E.P.underlying t = some (.struct fs)) {z : List AC} (hz : zeroOf E t = some z)
    {pl : List (Nat × Nat)} (hpl : placesL E fs.toList = some pl) {ro : Operand → TV} (hp : ∀ p ∈ parts.toList, TVRep w ρ Fz (ro p.2) (a.eval p.2)) {cs : List AC} (hf : fillP (fun i => pl[i]?) z (parts.toList.map fun (i, x) => (i, ro x)) = some cs) :
    Done E w0 T Fz0 U h ρ Fz w o a (.v (.agg cs)) := by
  obtain ⟨i, zv, hi, hz', rfl⟩ := zeroOf_some hz
  obtain ⟨ov, hov, hrep⟩ := fill_ok (fun i => pl[i]?) (fun i => pl.toArray[i]?) (fun i p hp => by simpa using hp) R parts.toList ro _ zv.cells cs hp (ofConsts_rep _) hf
  have hb : E.P.built t (parts.map fun (i, x) => (i, a.eval x)).toList = some ov := by
    unfold Program.built
    rw [hi, hu]
    simp only [hz', placesL_eq hpl]
    rw [Array.toList_map]
    exact hov
  refine Done.same R (v := .agg ov) ?_ ⟨ov, rfl, hrep⟩
  simp [execOp, ho, run_build w t _ ov hb]
/-! rows of one's own that are made -/
theorem mod_flat {α : Type} (l : List α) : ∀ (n j : Nat), j < n * l.length → (List.replicate n l).flatten[j]? = l[j % l.length]?
  | 0, j, h => by omega
  | n + 1, j, h => by
    rw [List.replicate_succ, List.flatten_cons, List.getElem?_append]
    split
    · rename_i hj; rw [Nat.mod_eq_of_lt hj]
    · rename_i hj
      have h' : j < n * l.length + l.length := by rw [← Nat.succ_mul]; exact h
      rw [mod_flat l n (j - l.length) (by omega)]
      conv => rhs; rw [Nat.mod_eq_sub_mod (by omega)]
theorem made_flat (z : Array Value) (n : Nat) (hz : 0 < z.size) : (madeCells z (n * z.size)).toList = (List.replicate n z.toList).flatten := by
  apply List.ext_getElem?
  intro j
  by_cases hj : j < n * z.size
  · have h1 := mod_flat z.toList n j (by simpa using hj)
    rw [h1]
    have hm : j % z.size < z.size := Nat.mod_lt _ hz
    simp [madeCells, hj, hm]
  · rw [List.getElem?_eq_none (by simpa [madeCells] using hj), List.getElem?_eq_none (by simp [List.length_flatten]; omega)]
theorem Rows_rep {t : Ty} {x : el t} {vs : List Value} (hk : KI w Fz t x vs) : ∀ n, Rows w Fz t (List.replicate n x) (List.replicate n vs).flatten
  | 0 => Rows_nil
  | n + 1 => by
    rw [List.replicate_succ, List.replicate_succ, List.flatten_cons]
    exact Rows_app (xs := [x]) (Rows_one hk) (Rows_rep hk n)
theorem make_ok (EOK : EnvOk E) (R : RelM w0 T Fz0 U h ρ Fz w) {next : Nat} (hn : ¬ U next) {Tt : TypeId} {l c : Operand} (ho : o.op = .makeSlice Tt l c) {e : Nat} {t : Ty} (he : elemOf E Tt = some (e, t))
    {kl kc : IntKind} {n cp : Int} (hl : a.eval l = .int kl n) (hcp : a.eval c = .int kc cp) (h0 : 0 ≤ n) (h1 : n ≤ cp) (hb : cp.toNat * E.P.bytesOf e ≤ 140737488351232) :
    Done E w0 T Fz0 (fun i => U i ∨ i = next) (updF h [(next, some (.own e t (List.replicate n.toNat (dflt t))))]) ρ Fz w o a (.c (.o next)) := by
  obtain ⟨hu, hty⟩ := elemOf_some he
  have ok := EOK e t hty
  obtain ⟨i, z, hi, hz, hz0⟩ := ok.zero
  have hsz : i.size = sz t := by rw [← ok.sz]; simp [Program.cellsOf, hi]
  have hby : E.P.bytesOf e = i.bytes := by simp [Program.bytesOf, hi]
  have hzs : z.cells.size = sz t := by have := KI_len (hz0 w Fz); simpa using this
  have hlen : cp.toNat ≤ cp.toNat * E.P.bytesOf e := Nat.le_mul_of_pos_right _ ok.by1
  obtain ⟨m, rfl⟩ : ∃ m : Nat, n = m := ⟨n.toNat, (Int.toNat_of_nonneg h0).symm⟩
  obtain ⟨c', rfl⟩ : ∃ m : Nat, cp = m := ⟨cp.toNat, (Int.toNat_of_nonneg (by omega)).symm⟩
  have h1 : m ≤ c' := by omega
  simp only [Int.toNat_natCast] at hb hlen ⊢
  have hbm : ((i.bytes * c' : Nat) : Int) ≤ 281474976710656 := by rw [hby, Nat.mul_comm] at hb; omega
  rw [Int.natCast_mul] at hbm
  have hr := run_make (P := E.P) w Tt e i z hu hi hz kl kc m c' (by omega) (by omega) hbm (by omega)
  simp only [Int.toNat_natCast] at hr
  rw [hsz] at hr
  have hmc : m * sz t ≤ c' * sz t := Nat.mul_le_mul_right _ h1
  have hown : (w.alloc (.cells (madeCells z.cells (c' * sz t)) e)).ownsRow 0 e (sz t) (.slice (some ⟨w.heap.size, 0, none⟩) m c') m ((madeCells z.cells (c' * sz t)).toList.take (m * sz t)) := by
    have h9 := size_madeCells z.cells (c' * sz t)
    refine ⟨by rw [List.length_take, Array.length_toList, h9]; omega, .inr ⟨w.heap.size, c', _, rfl, Nat.zero_le _, ?_, h1, by unfold maxLen; omega, h9, rfl⟩⟩
    exact heap_alloc_new w _
  have hrows : Rows w Fz t (List.replicate m (dflt t)) ((madeCells z.cells (c' * sz t)).toList.take (m * sz t)) := by
    have h8 := Rows_rep (hz0 w Fz) m
    have e8 : ((madeCells z.cells (c' * sz t)).toList.take (m * sz t)) = (List.replicate m z.cells.toList).flatten := by
      rw [← hzs, made_flat _ _ (by rw [hzs]; exact ok.pos), show c' = m + (c' - m) from by omega, ← List.replicate_append_replicate, List.flatten_append]
      rw [show m * z.cells.size = (List.replicate m z.cells.toList).flatten.length from by simp [List.length_flatten]]
      exact List.take_left
    rw [e8]; exact h8
  have mo := mono_alloc R next hn (.cells (madeCells z.cells (c' * sz t)) e) (.slice (some ⟨w.heap.size, 0, none⟩) m c')
  obtain ⟨R', m'⟩ := R.fresh next hn (.own e t (List.replicate m (dflt t))) (.cells (madeCells z.cells (c' * sz t)) e) (.slice (some ⟨w.heap.size, 0, none⟩) m c') rfl rfl (fun b hb => by cases hb; rfl)
    ⟨_, by rw [List.length_replicate]; exact hown, Rows_mono mo.fz mo.wd hrows⟩
  refine ⟨.slice (some ⟨w.heap.size, 0, none⟩) m c', _, _, Fz, .inl ?_, R', m', ⟨_, if_pos rfl, rfl, rfl⟩⟩
  simp [execOp, ho, hl, hcp, hr]
theorem make_dp_ok (EOK : EnvOk E) (R : RelM w0 T Fz0 U h ρ Fz w) {next : Nat} (hn : ¬ U next) {Tt : TypeId} {l c : Operand} (ho : o.op = .makeSlice Tt l c) {e : Nat} {t : Ty} (he : elemOf E Tt = some (e, t))
    {kl kc : IntKind} {n cp : Int} (hl : a.eval l = .int kl n) (hcp : a.eval c = .int kc cp) (h0 : 0 ≤ n) (h1 : n ≤ cp) (hb : cp.toNat * E.P.bytesOf e ≤ 140737488351232) (hdt : deepT t = true) (hzu : zeroNil E e = true) :
    Done E w0 T Fz0 (fun i => U i ∨ i = next) (updF h [(next, some (.dp e t (List.replicate n.toNat (dflt t))))]) ρ Fz w o a (.c (.o next)) := by
  obtain ⟨hu, hty⟩ := elemOf_some he
  have ok := EOK e t hty
  obtain ⟨i, z, hi, hz, hz0⟩ := ok.zero
  have hsz : i.size = sz t := by rw [← ok.sz]; simp [Program.cellsOf, hi]
  have hby : E.P.bytesOf e = i.bytes := by simp [Program.bytesOf, hi]
  have hzs : z.cells.size = sz t := by have := KI_len (hz0 w Fz); simpa using this
  have hlen : cp.toNat ≤ cp.toNat * E.P.bytesOf e := Nat.le_mul_of_pos_right _ ok.by1
  obtain ⟨m, rfl⟩ : ∃ m : Nat, n = m := ⟨n.toNat, (Int.toNat_of_nonneg h0).symm⟩
  obtain ⟨c', rfl⟩ : ∃ m : Nat, cp = m := ⟨cp.toNat, (Int.toNat_of_nonneg (by omega)).symm⟩
  have h1 : m ≤ c' := by omega
  simp only [Int.toNat_natCast] at hb hlen ⊢
  have hbm : ((i.bytes * c' : Nat) : Int) ≤ 281474976710656 := by rw [hby, Nat.mul_comm] at hb; omega
  rw [Int.natCast_mul] at hbm
  have hr := run_make (P := E.P) w Tt e i z hu hi hz kl kc m c' (by omega) (by omega) hbm (by omega)
  simp only [Int.toNat_natCast] at hr
  rw [hsz] at hr
  have hmc : m * sz t ≤ c' * sz t := Nat.mul_le_mul_right _ h1
  have hown : (w.alloc (.cells (madeCells z.cells (c' * sz t)) e)).ownsRow 0 e (sz t) (.slice (some ⟨w.heap.size, 0, none⟩) m c') m ((madeCells z.cells (c' * sz t)).toList.take (m * sz t)) := by
    have h9 := size_madeCells z.cells (c' * sz t)
    refine ⟨by rw [List.length_take, Array.length_toList, h9]; omega, .inr ⟨w.heap.size, c', _, rfl, Nat.zero_le _, ?_, h1, by unfold maxLen; omega, h9, rfl⟩⟩
    exact heap_alloc_new w _
  have e8 : ((madeCells z.cells (c' * sz t)).toList.take (m * sz t)) = (List.replicate m z.cells.toList).flatten := by
    rw [← hzs, made_flat _ _ (by rw [hzs]; exact ok.pos), show c' = m + (c' - m) from by omega, ← List.replicate_append_replicate, List.flatten_append]
    rw [show m * z.cells.size = (List.replicate m z.cells.toList).flatten.length from by simp [List.length_flatten]]
    exact List.take_left
  have hrows : Rows w Fz t (List.replicate m (dflt t)) ((madeCells z.cells (c' * sz t)).toList.take (m * sz t)) := by
    have h8 := Rows_rep (hz0 w Fz) m
    rw [e8]; exact h8
  have hzn : ∀ u ∈ (madeCells z.cells (c' * sz t)).toList.take (m * sz t), (ofConst1 u).isU = false := by
    have h7 : zeroOf E e = some (z.cells.toList.map ofConst1) := by simp [zeroOf, hi, hz]
    unfold zeroNil at hzu
    rw [h7] at hzu
    intro u hu
    rw [e8] at hu
    obtain ⟨l, hl, hu⟩ := List.mem_flatten.1 hu
    rw [(List.mem_replicate.1 hl).2] at hu
    have h6 : (z.cells.toList.map ofConst1).any AC.isU = false := by simpa using hzu
    exact List.any_eq_false.1 h6 _ (List.mem_map_of_mem hu) |> fun h => by simpa using h
  have mo := mono_alloc R next hn (.cells (madeCells z.cells (c' * sz t)) e) (ghost (.slice (some ⟨w.heap.size, 0, none⟩) m c') [w.heap.size])
  have hfl : ∀ n, (List.replicate n ([] : List Nat)).flatten = [] := by
    intro n
    induction n with
    | zero => rfl
    | succ n ih => rw [List.replicate_succ, List.flatten_cons, ih]; rfl
  have hgd : ∀ i, (List.replicate m ([] : List Nat)).getD i [] = [] := by
    intro i
    rw [List.getD_eq_getElem?_getD]
    cases h : (List.replicate m ([] : List Nat))[i]? with
    | none => rfl
    | some b => have := List.mem_of_getElem? h; rw [List.mem_replicate] at this; rw [this.2]; rfl
  have hdo : DO (w.alloc (.cells (madeCells z.cells (c' * sz t)) e)) (.sl e t) (List.replicate m (dflt t)) [.slice (some ⟨w.heap.size, 0, none⟩) m c'] [w.heap.size] := by
    refine ⟨_, _, List.replicate m [], rfl, by rw [List.length_replicate]; exact hown, hrows.1, by simp, fun i hi => ?_, ?_⟩
    · rw [hgd]
      have h9 := KI_mono mo.fz mo.wd (hrows.2 i hi)
      rw [List.getElem_replicate] at h9 ⊢
      refine DO_dflt hdt (List.any_eq_false.2 fun c hc => ?_) h9
      obtain ⟨u, hu, rfl⟩ := List.mem_map.1 hc
      simpa using hzn u (List.mem_of_mem_drop (List.mem_of_mem_take hu))
    · rw [hfl]; rfl
  obtain ⟨R', m'⟩ := R.fresh next hn (.dp e t (List.replicate m (dflt t))) (.cells (madeCells z.cells (c' * sz t)) e) (ghost (.slice (some ⟨w.heap.size, 0, none⟩) m c') [w.heap.size]) rfl rfl
    (fun b hb => by have := mem_blksV.2 hb; rw [ghost_blks] at this; exact List.mem_singleton.1 this) ⟨_, _, rfl, hdo, by simp⟩
  refine ⟨.slice (some ⟨w.heap.size, 0, none⟩) m c', _, _, Fz, .inl ?_, R', m', ⟨_, if_pos rfl, rfl, rfl⟩⟩
  simp [execOp, ho, hl, hcp, hr]
end
end Go.Sx
