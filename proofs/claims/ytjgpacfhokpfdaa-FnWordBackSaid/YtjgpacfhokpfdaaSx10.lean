/- Loads, stores and what leaves the memory as it is. Any program. -/
import Derived.Test.YtjgpacfhokpfdaaSx9
set_option linter.unusedVariables false
set_option linter.unusedSimpArgs false
namespace Go.Sx
open Go.RowKit

section
variable {E : Env} {w0 w : World} {T Fz0 Fz U : Nat → Prop} {h hr : Hp} {ρ : Nat → Option Value} {o : Oper} {a : Act}
theorem cells_of_blk {g ty : Nat} {cv : Array Value} {fr : Nat × Nat} (hg : w.heap[g]? = some (.cells cv ty fr)) : CellsAt w g 0 cv.toList := by
  intro j u hj
  simp [World.cell?, hg]
  simpa using hj
/-- The element's row of a row of one's own, in memory. -/
theorem own_elem {e : Nat} {t : Ty} {xs : List (el t)} {v : Value} {vs : List Value} {g n c : Nat} (ho : w.ownsRow 0 e (sz t) v xs.length vs) (hr : Rows w Fz t xs vs) (hv : v = .slice (some ⟨g, 0, none⟩) n c) {i : Nat} (hi : i < xs.length) :
    CellsAt w g (i * sz t) ((vs.drop (i * sz t)).take (sz t)) ∧ KI w Fz t xs[i] ((vs.drop (i * sz t)).take (sz t)) := by
  refine ⟨fun j u hj => ?_, hr.2 i hi⟩
  rw [List.getElem?_take] at hj
  split at hj
  · rw [List.getElem?_drop] at hj
    have := ho.cells (g := g) (by rw [hv]; rfl) _ u hj
    rw [Addr.add_lit, Nat.zero_add] at this
    exact this
  · cases hj
theorem getD_get {α : Type} (l : List α) (d : α) (i : Nat) (h : i < l.length) : l.getD i d = l[i] := by
  rw [List.getD_eq_getElem?_getD, List.getElem?_eq_getElem h]; rfl
theorem load_exe {Tt : TypeId} {x : Operand} (ho : o.op = .load Tt x) {ad : Addr} (hx : a.eval x = .pointer (some ad)) {v : Value} (hl : (loadVar Tt ad).run E.P w = .ok v w) : (execOp a.eval o).run E.P w = .ok (.value v) w := by
  simp [execOp, ho, hx, Instr.loadAt, Instr.sureAddr, hl]
theorem load_p (R : RelM w0 T Fz0 U h ρ Fz w) {Tt : TypeId} {x : Operand} (ho : o.op = .load Tt x) {id off : Nat} (hx : ACRep w ρ Fz (.p id off) (a.eval x)) {ty : Nat} {cs : List AC} (hb : h id = some (.box ty cs)) {v : AV} (hp : partC E Tt cs off = some v) :
    Done E w0 T Fz0 U h ρ Fz w o a (.v v) := by
  obtain ⟨g, hid, he⟩ := (hx : ∃ g, ρ id = some (.pointer (some ⟨g, 0, none⟩)) ∧ a.eval x = .pointer (some ⟨g, off, none⟩))
  obtain ⟨pv, hpv, g', cv, rfl, hg, hc⟩ := R.objs id _ hb
  rw [hid] at hpv; cases hpv
  obtain ⟨u, hu, hrep⟩ := load_part hp (cells_of_blk hg) hc
  rw [Nat.zero_add] at hu
  exact Done.same R (load_exe ho he hu) hrep
theorem load_pr (R : RelM w0 T Fz0 U h ρ Fz w) {Tt : TypeId} {x : Operand} (ho : o.op = .load Tt x) {t : Ty} {y : el t} {off : Nat} (hx : ACRep w ρ Fz (.pr t y off) (a.eval x)) {v : AV} (hp : partC E Tt (cells t y) off = some v) :
    Done E w0 T Fz0 U h ρ Fz w o a (.v v) := by
  obtain ⟨g, o', row, hf, he, hc, hk⟩ := (hx : ∃ g o row, Fz g ∧ a.eval x = .pointer (some ⟨g, o + off, none⟩) ∧ (∀ j u, row[j]? = some u → w.cell? ⟨g, o + j, none⟩ = some u) ∧ KI w Fz t y row)
  obtain ⟨u, hu, hrep⟩ := load_part hp hc (KI_cells ρ hk)
  exact Done.same R (load_exe ho he hu) hrep
theorem load_pe (R : RelM w0 T Fz0 U h ρ Fz w) {Tt : TypeId} {x : Operand} (ho : o.op = .load Tt x) {id off : Nat} {i : Int} {e : Nat} {t : Ty} {xs : List (el t)} (hx : ACRep w ρ Fz (.pe id (sz t) i off) (a.eval x)) (hb : h id = some (.own e t xs))
    {v : AV} (hp : partC E Tt (cells t (xs.getD i.toNat (dflt t))) off = some v) (hi : i.toNat < xs.length) : Done E w0 T Fz0 U h ρ Fz w o a (.v v) := by
  obtain ⟨g, n, c, hid, he⟩ := R.peOwn hb hx
  obtain ⟨pv, hpv, vs, hown, hrows⟩ := R.objs id _ hb
  rw [hid] at hpv; cases hpv
  obtain ⟨hc, hk⟩ := own_elem hown hrows rfl hi
  rw [getD_get _ _ _ hi] at hp
  obtain ⟨u, hu, hrep⟩ := load_part hp hc (KI_cells ρ hk)
  exact Done.same R (load_exe ho he hu) hrep

/-! stores -/
theorem store_exe {Tt : TypeId} {x y : Operand} (ho : o.op = .store Tt x y) {g off ty : Nat} {cur : Array Value} (hx : a.eval x = .pointer (some ⟨g, off, none⟩)) (hg : w.heap[g]? = some (.cells cur ty (0, 0)))
    (hn : (a.eval y).cells.size = E.P.cellsOf Tt) (hpos : 0 < (a.eval y).cells.size) (hfit : off + (a.eval y).cells.size ≤ cur.size) (h1 : ∀ u ∈ (a.eval y).cells.toList, u.oneCell' = true) :
    (execOp a.eval o).run E.P w = .ok .skip (w.setRow g (cur.toList.take off ++ (a.eval y).cells.toList ++ cur.toList.drop (off + (a.eval y).cells.size)).toArray) := by
  have hst := run_storeCells_at E.P g off ty (a.eval y).cells.toList 0 cur w hg (by have h9 : (a.eval y).cells.toList.length = (a.eval y).cells.size := Array.length_toList; omega) h1
  have hi : ∃ i, E.P.info? Tt = some i ∧ i.size = (a.eval y).cells.size := by
    cases hi : E.P.info? Tt with
    | none =>
      have : E.P.cellsOf Tt = 0 := by simp [Program.cellsOf, hi]
      omega
    | some i => exact ⟨i, rfl, by rw [hn]; simp [Program.cellsOf, hi]⟩
  obtain ⟨i, hi, his⟩ := hi
  simp only [Nat.add_zero, Array.length_toList] at hst
  simp [execOp, ho, hx, Instr.storeAt, Instr.sureAddr, storeVar, sizeOf, typeInfo, hi, his, hst]
theorem grow_setRow {g : Nat} {cur new : Array Value} {ty : Nat} (hg : w.heap[g]? = some (.cells cur ty (0, 0))) : w.grownBy (w.setRow g new) (some g) :=
  ⟨rfl, rfl, rfl, by simp, fun k _ hk => setRow_other w g k _ (fun e => hk (by rw [e]))⟩
theorem cells_known (R : RelM w0 T Fz0 U h ρ Fz w) {cs : List AC} {vs : List Value} (hc : All2 (ACRep w ρ Fz) cs vs) (hu : cs.any AC.isU = false) : ∀ u ∈ vs, u.oneCell' = true := by
  induction cs generalizing vs with
  | nil => cases vs with
    | nil => intro u hu; cases hu
    | cons => exact hc.elim
  | cons c cs ih =>
    cases vs with
    | nil => exact hc.elim
    | cons v vs =>
      simp only [List.any_cons, Bool.or_eq_false_iff] at hu
      intro u hm
      rcases List.mem_cons.1 hm with rfl | hm
      · exact ACRep_one hc.1 hu.1 (R_one R)
      · exact ih hc.2 hu.2 u hm
theorem AV_cells' (R : RelM w0 T Fz0 U h ρ Fz w) {x : AV} {v : Value} (hx : AVRep w ρ Fz x v) (hu : x.cells.any AC.isU = false) : All2 (ACRep w ρ Fz) x.cells v.cells.toList :=
  AV_cells R hx fun c hc => by subst hc; simpa [AV.cells] using hu
theorem store_p (R : RelM w0 T Fz0 U h ρ Fz w) {Tt : TypeId} {x y : Operand} (ho : o.op = .store Tt x y) {id off : Nat} (hx : ACRep w ρ Fz (.p id off) (a.eval x)) {ty : Nat} {cs : List AC} (hb : h id = some (.box ty cs))
    {yv : AV} (hy : AVRep w ρ Fz yv (a.eval y)) (hn : yv.cells.length = E.P.cellsOf Tt) (hpos : 0 < yv.cells.length) (hfit : off + yv.cells.length ≤ cs.length) (hu : yv.cells.any AC.isU = false) :
    Done E w0 T Fz0 U (updF h [(id, some (.box ty (setAt cs off yv.cells)))]) ρ Fz w o a (.tup []) := by
  obtain ⟨g, hid, he⟩ := (hx : ∃ g, ρ id = some (.pointer (some ⟨g, 0, none⟩)) ∧ a.eval x = .pointer (some ⟨g, off, none⟩))
  obtain ⟨pv, hpv, g', cv, rfl, hg, hc⟩ := R.objs id _ hb
  rw [hid] at hpv; cases hpv
  have hyc := AV_cells' R hy hu
  have hl1 : (a.eval y).cells.size = yv.cells.length := by have := hyc.len; simpa using this.symm
  have hl2 : cv.size = cs.length := by have := hc.len; simpa using this.symm
  have hexe := store_exe (E := E) ho he hg (by rw [hl1, hn]) (by omega) (by omega) (cells_known R hyc hu)
  have hgr := grow_setRow (new := (cv.toList.take off ++ (a.eval y).cells.toList ++ cv.toList.drop (off + (a.eval y).cells.size)).toArray) hg
  have hlive : Live h ρ id g := ⟨_, _, hb, rfl, hid, rfl⟩
  have hfz : ¬ Fz g := (R.mt id g hlive).1
  have m0 : ∀ ρ', (∀ i v, ρ i = some v → ρ' i = some v) → Mono w ρ Fz (w.setRow g (cv.toList.take off ++ (a.eval y).cells.toList ++ cv.toList.drop (off + (a.eval y).cells.size)).toArray) ρ' Fz := fun ρ' hρ => ⟨fun i v e => .inl (hρ i v e), fun _ h => h, fun b hb => setRow_other w g b _ (fun e => hfz (e ▸ hb))⟩
  have hρ' : ∀ i v, ρ i = some v → (fun i => if i = id then some (Value.pointer (some ⟨g, 0, none⟩)) else ρ i) i = some v := by
    intro i v e
    by_cases hi : i = id
    · subst hi; simp only [if_true]; rw [hid] at e; exact e
    · simp only [if_neg hi]; exact e
  obtain ⟨R', m⟩ := R.put (U' := U) (h' := updF h [(id, some (.box ty (setAt cs off yv.cells)))]) hgr id (.box ty (setAt cs off yv.cells)) (.pointer (some ⟨g, 0, none⟩)) rfl rfl
    (fun b hb => by cases hb; exact ⟨id, hlive, .inr rfl⟩) (.inr ⟨_, hid, .inl rfl⟩) (fun b hb => by cases hb; exact .inr ⟨id, hlive, .inr rfl⟩) (fun _ h => h) (R.dom id _ hid).1 (by simp [updF]) (fun i ob hi hob => by simpa [updF, hi] using hob)
    ⟨g, _, rfl, setRow_heap w g cv _ ty (0, 0) hg, by
      have := (setAt_rep yv.cells _ cs cv.toList off hyc hc hfit).imp (fun _ _ => ACRep_mono (m0 _ hρ'))
      simpa using this⟩
  exact ⟨_, _, _, Fz, .inr ⟨hexe, rfl⟩, R', m, ⟨#[], rfl, trivial⟩⟩
theorem seg_take {α : Type} (cur uv : List α) (k N : Nat) (h : k + uv.length ≤ N) (hk : k + uv.length ≤ cur.length) : (cur.take k ++ uv ++ cur.drop (k + uv.length)).take N = (cur.take N).take k ++ uv ++ (cur.take N).drop (k + uv.length) := by
  have h1 : (cur.take k).length = k := by rw [List.length_take]; omega
  have h2 : (cur.take k ++ uv).length = k + uv.length := by rw [List.length_append, h1]
  rw [List.take_append, h2, List.take_of_length_le (l := cur.take k ++ uv) (by omega), List.take_take, Nat.min_eq_left (by omega), List.drop_take]
theorem seg_elem {α : Type} (vs uv : List α) (i s off : Nat) (h1 : off + uv.length ≤ s) (h2 : (i + 1) * s ≤ vs.length) :
    vs.take (i * s) ++ (((vs.drop (i * s)).take s).take off ++ uv ++ ((vs.drop (i * s)).take s).drop (off + uv.length)) ++ vs.drop ((i + 1) * s) = vs.take (i * s + off) ++ uv ++ vs.drop (i * s + off + uv.length) := by
  rw [Nat.succ_mul] at h2 ⊢
  rw [List.take_take, Nat.min_eq_left (by omega), List.drop_take, List.drop_drop, List.take_add]
  simp only [List.append_assoc]
  congr 3
  have : (vs.drop (i * s + (off + uv.length))).take (s - (off + uv.length)) ++ vs.drop (i * s + s) = vs.drop (i * s + (off + uv.length)) := by
    have e : i * s + s = i * s + (off + uv.length) + (s - (off + uv.length)) := by omega
    conv => lhs; arg 2; rw [e, ← List.drop_drop]
    exact List.take_append_drop ..
  rw [this, Nat.add_assoc]
theorem oIds_app (a b : List AC) : oIds (a ++ b) = oIds a ++ oIds b := by
  induction a with
  | nil => rfl
  | cons c a ih => cases c <;> simp [oIds, ih]
theorem oIds_cells : ∀ (t : Ty) (x : el t), oIds (cells t x) = []
  | .int _, _ | .bool, _ | .str, _ | .sl _ _, _ | .ow _ _, _ | .fnc _, _ | .bx _ _, _ | .any, _ | .lk _ _, _ | .fp _, _ | .mq _ _, _ | .om _ _, _ | .dw _ _, _ | .unit, _ => rfl
  | .pair a b, x => by simp only [cells, oIds_app, oIds_cells a x.1, oIds_cells b x.2]; rfl
  | .wrap t, x => oIds_cells t x
theorem oIds_mem : ∀ {cs : List AC} {k : Nat}, k ∈ oIds cs ↔ AC.o k ∈ cs
  | [], k => by simp [oIds]
  | c :: r, k => by
    have ih := oIds_mem (cs := r) (k := k)
    cases c <;> simp [oIds, ih]
theorem oIds_setAt : ∀ (us cs : List AC) (off k : Nat), k ∈ oIds (setAt cs off us) → k ∈ oIds cs ∨ k ∈ oIds us
  | [], cs, off, k, h => .inl h
  | u :: us, cs, off, k, h => by
    rcases oIds_setAt us (cs.set off u) (off + 1) k h with h | h
    · rw [oIds_mem] at h
      rcases List.mem_or_eq_of_mem_set h with h | h
      · exact .inl (oIds_mem.2 h)
      · exact .inr (oIds_mem.2 (by rw [← h]; exact List.mem_cons_self))
    · exact .inr (oIds_cons u us k h)
theorem cond_same {α : Type} (b : Bool) (x : α) : cond b x x = x := by cases b <;> rfl
theorem putE_eq {hr : Hp} {t : Ty} {off : Nat} {cs : List AC} {xs : List (el t)} {i : Nat} {y : el t} (hi : i < xs.length) (hd : decAll hr t (setAt (cells t (xs.getD i (dflt t))) off cs) = some y) : xs.modify i (modF hr t off cs) = xs.set i y := by
  refine List.ext_getElem (by simp) fun j h1 h2 => ?_
  rw [List.getElem_modify, List.getElem_set]
  by_cases hj : i = j
  · subst hj
    rw [if_pos rfl, if_pos rfl]
    rw [List.getD_eq_getElem?_getD, List.getElem?_eq_getElem hi, Option.getD_some] at hd
    simp only [modF, hd, orD]
  · rw [if_neg hj, if_neg hj]
theorem store_pe (R : RelM w0 T Fz0 U h ρ Fz w) (hsub : ∀ id ob, hr id = some ob → h id = some ob) {Tt : TypeId} {x y : Operand} (ho : o.op = .store Tt x y) {id off : Nat} {i : Int} {e : Nat} {t : Ty} {xs : List (el t)} (hrd : rdo t = true)
    (hx : ACRep w ρ Fz (.pe id (sz t) i off) (a.eval x)) (hb : hr id = some (.own e t xs)) {yv : AV} (hy : AVRep w ρ Fz yv (a.eval y)) (hn : yv.cells.length = E.P.cellsOf Tt) (hpos : 0 < yv.cells.length) (hfit : off + yv.cells.length ≤ sz t)
    (hu : yv.cells.any AC.isU = false) (hap : id ∉ oIds yv.cells) {z : el t} (hd : decAll hr t (setAt (cells t (xs.getD i.toNat (dflt t))) off yv.cells) = some z) (hi : i.toNat < xs.length) :
    Done E w0 T Fz0 U (updF h (frz hr yv.cells ++ [(id, some (.own e t (xs.set i.toNat z)))])) ρ Fz w o a (.tup []) := by
  obtain ⟨Fz', R1, m1, hfz, hfz2⟩ := frz_ok R hsub yv.cells
  have hb0 := hsub id _ hb
  have hb1 : updF h (frz hr yv.cells) id = some (.own e t xs) := by
    rw [updF_not _ _ _ (fun hm => by obtain ⟨p, hp, rfl⟩ := List.mem_map.1 hm; exact hap (frz_mem hr yv.cells p hp).1)]
    exact hb0
  obtain ⟨g, n, c, hid, he⟩ := R.peOwn hb0 hx
  obtain ⟨pv, hpv, vs, hown, hrows⟩ := R.objs id _ hb0
  rw [hid] at hpv; cases hpv
  have hlive : Live (updF h (frz hr yv.cells)) ρ id g := ⟨_, _, hb1, rfl, hid, rfl⟩
  have hnfz : ¬ Fz' g := (R1.mt id g hlive).1
  obtain ⟨hc, hk⟩ := own_elem hown hrows rfl hi
  have hyc := AV_cells' R hy hu
  have hl1 : (a.eval y).cells.size = yv.cells.length := by have := hyc.len; simpa using this.symm
  rw [getD_get _ _ _ hi] at hd
  -- the new row
  have hnew := setAt_rep yv.cells _ (cells t xs[i.toNat]) ((vs.drop (i.toNat * sz t)).take (sz t)) off hyc (KI_cells ρ hk) (by rw [cells_len]; exact hfit)
  have hk2 := KO_KI hrd (decAll_KO (Fz' := Fz') (R.less hsub) m1.fz hd hnew (fun k hk b hl => hfz2 k (by
    have h1 := (owIds_sub _ t _ hrd).1 k hk
    rcases oIds_setAt _ _ _ _ h1 with h2 | h2
    · rw [oIds_cells] at h2; cases h2
    · exact h2) b hl) (fun k hk => by rw [fzIds_rdo _ t _ hrd] at hk; cases hk)).1
  have hrows2 := Rows_set (Rows_mono (Fz' := Fz') m1.fz m1.wd hrows) hi hk2
  have hle : (i.toNat + 1) * sz t ≤ xs.length * sz t := Nat.mul_le_mul_right _ hi
  have hle' : (i.toNat + 1) * sz t = i.toNat * sz t + sz t := Nat.succ_mul ..
  have hul : (a.eval y).cells.toList.length = yv.cells.length := by simpa using hl1
  rw [seg_elem vs (a.eval y).cells.toList i.toNat (sz t) off (by omega) (by rw [hrows.1]; exact hle)] at hrows2
  -- in memory
  rcases hown.2 with ⟨hnil, _⟩ | ⟨g', cap, cur, hv, _, hg, hnc, hcm, hcs, htake⟩
  · cases hnil
  · simp only [Value.slice.injEq, Option.some.injEq, Addr.mk.injEq, and_true, true_and] at hv
    obtain ⟨rfl, rfl, rfl⟩ := hv
    have hcapsz : xs.length * sz t ≤ c * sz t := Nat.mul_le_mul_right _ hnc
    have hfits : i.toNat * sz t + off + (a.eval y).cells.size ≤ cur.size := by omega
    have hexe := store_exe (E := E) ho he hg (by rw [hl1, hn]) (by omega) hfits (cells_known R hyc hu)
    have hgr := grow_setRow (new := (cur.toList.take (i.toNat * sz t + off) ++ (a.eval y).cells.toList ++ cur.toList.drop (i.toNat * sz t + off + (a.eval y).cells.size)).toArray) hg
    have hwd : ∀ b, Fz' b → (w.setRow g (cur.toList.take (i.toNat * sz t + off) ++ (a.eval y).cells.toList ++ cur.toList.drop (i.toNat * sz t + off + (a.eval y).cells.size)).toArray).heap[b]? = w.heap[b]? := fun b hb => setRow_other w g b _ (fun e => hnfz (e ▸ hb))
    obtain ⟨R', m⟩ := R1.put (U' := U) (h' := updF (updF h (frz hr yv.cells)) [(id, some (.own e t (xs.set i.toNat z)))]) hgr id (.own e t (xs.set i.toNat z)) (.slice (some ⟨g, 0, none⟩) xs.length c) rfl rfl
      (fun b hb => by cases hb; exact ⟨id, hlive, .inr rfl⟩) (.inr ⟨_, hid, .inl rfl⟩) (fun b hb => by cases hb; exact .inr ⟨id, hlive, .inr rfl⟩) (fun _ h => h) (R1.dom id _ hid).1 (by simp [updF]) (fun k ob hk hob => by simpa [updF, hk] using hob)
      ⟨_, by
        rw [List.length_set]
        refine ⟨by have := hrows2.1; rw [List.length_set] at this; exact this, .inr ⟨g, c, _, rfl, Nat.zero_le _, setRow_heap w g cur _ e (0, 0) hg, hnc, hcm, ?_, ?_⟩⟩
        · simp only [List.size_toArray, List.length_append, List.length_take, List.length_drop, Array.length_toList]; omega
        · have hseg := seg_take cur.toList (a.eval y).cells.toList (i.toNat * sz t + off) (xs.length * sz t) (by omega) (by have h9 : cur.toList.length = cur.size := Array.length_toList; omega)
          rw [htake] at hseg
          simp only [Array.length_toList] at hseg
          exact hseg, Rows_mono (fun _ h => h) hwd (by simpa using hrows2)⟩
    refine ⟨_, _, _, Fz', .inr ⟨hexe, rfl⟩, by rw [updF_app]; exact R', m1.trans m, ⟨#[], rfl, trivial⟩⟩
end
end Go.Sx
