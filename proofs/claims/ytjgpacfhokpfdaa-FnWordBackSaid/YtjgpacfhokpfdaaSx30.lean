/- A nil interface; a row of pointers to variables. Any program. -/
import Derived.Test.YtjgpacfhokpfdaaSx25
import Derived.Test.YtjgpacfhokpfdaaSx29
import Derived.Laws.BytesArg
set_option linter.unusedVariables false
set_option linter.unusedSimpArgs false
namespace Go.Sx
open Go.RowKit
section
variable {E : Env} {w0 w : World} {T Fz0 Fz U : Nat → Prop} {h hr : Hp} {ρ : Nat → Option Value} {o : Oper} {a : Act}
theorem Done.stay {val : TV} (d : Done E w0 T Fz0 U h ρ Fz w o a val) : Done E w0 T Fz0 (fun i => U i ∨ i ∈ (([] : Upd).map (·.1))) (updF h []) ρ Fz w o a val := d.weakU fun _ h => .inl h
theorem inil_of {f : Nat} (hf : Nat.beq f ixB = true) {v : Value} (h : ACRep w ρ Fz (.fn f [.bool true]) v) : v = .nilIface := by
  obtain rfl := Nat.eq_of_beq_eq_true hf
  obtain ⟨cv, rfl, hc⟩ := h
  obtain ⟨u, us, h3, h4, h5⟩ := all2_cons hc
  obtain rfl : u = .bool true := h4
  cases us with
  | cons => cases h5
  | nil =>
    obtain rfl : cv = #[.bool true] := Array.toList_inj.1 h3
    rfl
theorem ifc_of {g : Nat} {k : IntKind} {n : Int} (hg : Nat.ble (ixB + 2) g = true) {v : Value} (h : ACRep w ρ Fz (.fn g [.int k n]) v) : v = .iface (g - (ixB + 2)) (.int k n) := by
  obtain ⟨cv, rfl, hc⟩ := h
  obtain ⟨u, us, h3, h4, h5⟩ := all2_cons hc
  obtain rfl : u = .int k n := h4
  have hge := Nat.le_of_ble_eq_true hg
  cases us with
  | cons => cases h5
  | nil =>
    obtain rfl : cv = #[.int k n] := Array.toList_inj.1 h3
    have hlt : Nat.blt g ixB = false := by
      cases hb : Nat.blt g ixB with
      | false => rfl
      | true => have := Nat.le_of_ble_eq_true hb; omega
    rw [fnV_ix hlt rfl]
    unfold spV
    have e1 : Nat.beq g ixB = false := by
      cases hb : Nat.beq g ixB with
      | false => rfl
      | true => have := Nat.eq_of_beq_eq_true hb; omega
    have e2 : Nat.beq g (ixB + 1) = false := by
      cases hb : Nat.beq g (ixB + 1) with
      | false => rfl
      | true => have := Nat.eq_of_beq_eq_true hb; omega
    rw [e1, e2]
    rfl
theorem nilEq_ok (R : RelM w0 T Fz0 U h ρ Fz w) {op : BinOp} {Tt Ty' : TypeId} {x y : Operand} (ho : o.op = .binOp op Tt x y Ty') {ax ay : TV} (hx : TVRep w ρ Fz ax (a.eval x)) (hy : TVRep w ρ Fz ay (a.eval y)) {q : SR}
    (hq : nilEqSR E op Tt y ax ay = some q) (z : el q.τ) : Done E w0 T Fz0 (fun i => U i ∨ i ∈ (q.upd z).map (·.1)) (updF h (q.upd z)) ρ Fz w o a (q.val z) := by
  unfold nilEqSR at hq
  split at hq
  · rename_i f g ms hu
    split at hq
    · rename_i cy
      replace hq := cond_some hq; obtain ⟨hfg, hq⟩ := hq
      rw [Bool.and_eq_true] at hfg
      have h1 := inil_of hfg.1 hx
      have h2 := inil_of hfg.2 hy
      have he : (Op.equal Tt .nilIface .nilIface).run E.P w = .ok true w := by
        show (Op.equalIn (9999 + 1) Tt .nilIface .nilIface).run E.P w = _
        generalize 9999 = d
        simp [Op.equalIn, run_underlying hu]
      split at hq <;> cases hq
      · exact (Done.same R (val := .c (.bool true)) (v := .bool true) (by simp [execOp, ho, h1, h2, eqGuard, Go.binOp, he, Result.andThen]) rfl).stay
      · exact (Done.same R (val := .c (.bool false)) (v := .bool false) (by simp [execOp, ho, h1, h2, eqGuard, Go.binOp, he, Result.andThen]) rfl).stay
    · cases hq
  · rename_i f g k n ms hu
    replace hq := cond_some hq; obtain ⟨hfg, hq⟩ := hq
    rw [Bool.and_eq_true] at hfg
    have h1 := inil_of hfg.1 hx
    have h2 := ifc_of hfg.2 hy
    generalize g - (ixB + 2) = g' at h2
    have he : (Op.equal Tt .nilIface (.iface g' (.int k n))).run E.P w = .ok false w := by
      show (Op.equalIn (9999 + 1) Tt .nilIface (.iface g' (.int k n))).run E.P w = _
      generalize 9999 = d
      simp [Op.equalIn, run_underlying hu]
    split at hq <;> cases hq
    · exact (Done.same R (val := .c (.bool false)) (v := .bool false) (by simp [execOp, ho, h1, h2, eqGuard, Go.binOp, he, Result.andThen]) rfl).stay
    · exact (Done.same R (val := .c (.bool true)) (v := .bool true) (by simp [execOp, ho, h1, h2, eqGuard, Go.binOp, he, Result.andThen]) rfl).stay
  · cases hq
theorem mkIface_ok (R : RelM w0 T Fz0 U h ρ Fz w) {Tt : TypeId} {x : Operand} (ho : o.op = .makeInterface Tt x) {ax : TV} (hx : TVRep w ρ Fz ax (a.eval x)) {q : SR} (hq : mkIfaceSR E Tt ax = some q) (z : el q.τ) :
    Done E w0 T Fz0 (fun i => U i ∨ i ∈ (q.upd z).map (·.1)) (updF h (q.upd z)) ρ Fz w o a (q.val z) := by
  unfold mkIfaceSR at hq
  split at hq
  · rename_i kk hu
    split at hq
    · rename_i k n
      cases hq
      have hx : a.eval x = .int k n := hx
      have hlt : Nat.blt (Tt + (ixB + 2)) ixB = false := by
        cases hb : Nat.blt (Tt + (ixB + 2)) ixB with
        | false => rfl
        | true => have := Nat.le_of_ble_eq_true hb; omega
      have hv : fnV (Tt + (ixB + 2)) #[.int k n] = .iface Tt (.int k n) := by
        rw [fnV_ix hlt rfl]
        unfold spV
        have e1 : Nat.beq (Tt + (ixB + 2)) ixB = false := by
          cases hb : Nat.beq (Tt + (ixB + 2)) ixB with
          | false => rfl
          | true => have := Nat.eq_of_beq_eq_true hb; omega
        have e2 : Nat.beq (Tt + (ixB + 2)) (ixB + 1) = false := by
          cases hb : Nat.beq (Tt + (ixB + 2)) (ixB + 1) with
          | false => rfl
          | true => have := Nat.eq_of_beq_eq_true hb; omega
        rw [e1, e2, Nat.add_sub_cancel]
        rfl
      exact (Done.same R (val := .c (.fn (Tt + (ixB + 2)) [.int k n])) (v := .iface Tt (.int k n)) (by simp [execOp, ho, hx, Instr.makeInterface, run_underlying hu]) ⟨_, hv.symm, rfl, trivial⟩).stay
    · cases hq
  · cases hq
theorem convSl_ok (EOK : EnvOk E) (R : RelM w0 T Fz0 U h ρ Fz w) (hsub : ∀ id ob, hr id = some ob → h id = some ob) {src dst : TypeId} {x : Operand} (ho : o.op = .convert src dst x) {ax : TV} (hx : TVRep w ρ Fz ax (a.eval x)) {q : SR} (hq : convSlSR E hr src dst ax = some q) (z : el q.τ) :
    Done E w0 T Fz0 (fun i => U i ∨ i ∈ (q.upd z).map (·.1)) (updF h (q.upd z)) ρ Fz w o a (q.val z) := by
  unfold convSlSR at hq
  split at hq
  · rename_i e c hd hel
    split at hq
    · rename_i xs he hrd
      cases hq
      obtain ⟨hu, hty⟩ := elemOf_some hel
      have Rr := R.less hsub
      obtain ⟨A, cp, hv, hl, hrows⟩ := read_KI (Fz' := fun _ => True) Rr (fun _ _ => trivial) hrd hx (fun _ _ _ _ => trivial)
      have hv : a.eval x = .slice A xs.length cp := by simpa using hv
      refine (Done.same R (val := .c (.str (strN xs))) (v := .string (strN xs)) ?_ rfl).stay
      cases A with
      | none =>
        have hx0 : xs = [] := by
          cases xs with
          | nil => rfl
          | cons y ys => obtain ⟨g, o', row, h1, _⟩ := hrows 0 (by simp); cases h1
        subst hx0
        have hr := run_convert_bytes_nil (P := E.P) w src e hu he 0 cp dst hd
        simp only [execOp, ho, hv, List.length_nil, map_eq_pure_bind, Sem.run_bind, hr, Result.andThen_ok, Sem.run_pure]
        rfl
      | some A =>
        obtain ⟨g, off, ap⟩ := A
        by_cases h0 : xs = []
        · subst h0
          have hr : (Go.convert src dst (.slice (some ⟨g, off, ap⟩) 0 cp)).run E.P w = .ok (.string (strN [])) w := by
            rw [run_convert_bytes_string w src dst e _ 0 cp hu he hd, run_bytesToString w _ 0 cp [] (by show (pure #[] : Sem (Array Value)).run E.P w = _; simp)]
            rfl
          simp only [execOp, ho, hv, List.length_nil, map_eq_pure_bind, Sem.run_bind, hr, Result.andThen_ok, Sem.run_pure]
          rfl
        · have hap : ap = none := by
            cases xs with
            | nil => exact absurd rfl h0
            | cons y ys => obtain ⟨g', o', row, h1, _⟩ := hrows 0 (by simp); cases h1; rfl
          subst hap
          have hr := run_convert_bytes_arg (P := E.P) w src e hu he g off xs.length cp xs rfl (fun i hi => by
            obtain ⟨g', o', row, h1, _, hc, hk⟩ := hrows i hi
            cases h1
            obtain rfl : row = [.int .u8 xs[i]] := hk
            have h1 := hc 0 (.int .u8 xs[i]) rfl
            have h2 : w.cell? ⟨g, off + i, none⟩ = some (.int .u8 xs[i]) := by simpa [sz] using h1
            have h3 : List.getD (α := Int) xs i 0 = xs[i] := getD_get (α := Int) xs 0 i hi
            exact h2.trans (congrArg (fun n => some (Value.int .u8 n)) h3.symm)) dst hd
          simp only [execOp, ho, hv, map_eq_pure_bind, Sem.run_bind, hr, Result.andThen_ok, Sem.run_pure]
          rfl
    · cases hq
  · cases hq
theorem ixSl_ok (R : RelM w0 T Fz0 U h ρ Fz w) {Tt : TypeId} {x ix : Operand} (ho : o.op = .indexAddr Tt x ix) {ax ai : TV} (hx : TVRep w ρ Fz ax (a.eval x)) (hi : TVRep w ρ Fz ai (a.eval ix)) {q : SR} (hq : ixSlSR E Tt ax ai = some q)
    (hc : ∀ c ∈ q.conds, c = true) (z : el q.τ) : Done E w0 T Fz0 (fun i => U i ∨ i ∈ (q.upd z).map (·.1)) (updF h (q.upd z)) ρ Fz w o a (q.val z) := by
  unfold ixSlSR at hq
  split at hq
  · rename_i e f id off k m k' i hu
    split at hq
    · rename_i inf he
      replace hq := cond_some hq; obtain ⟨hf, hq⟩ := hq
      cases hq
      have h0 : 0 ≤ i := by simpa using hc _ List.mem_cons_self
      have h1 : i < (m.toNat : Int) := by simpa using hc _ (List.mem_cons_of_mem _ List.mem_cons_self)
      obtain ⟨cv, hv, hcv⟩ := (hx : ∃ cv, a.eval x = fnV f cv ∧ All2 (ACRep0 w ρ Fz) [.p id off, .int k m] cv.toList)
      obtain ⟨g, hg, hs⟩ := slV_of hf hcv
      have hexe := indexAddr_exe (w := w) ho hu (d := .bool) (by rw [he]; simp) (hv.trans hs) hi h0 h1
      exact (Done.same R (val := .c (.p id (off + i.toNat * E.P.cellsOf e))) hexe ⟨g, hg, rfl⟩).stay
    · cases hq
  · cases hq
theorem ptrRow_ok (R : RelM w0 T Fz0 U h ρ Fz w) {ro : Operand → TV} {next : Nat} {Tt : TypeId} {len : Nat} {parts : Array (Nat × Operand)} (ho : o.op = .buildSlice Tt len parts) (hp : ∀ p ∈ parts.toList, TVRep w ρ Fz (ro p.2) (a.eval p.2)) {q : SR}
    (hq : ptrRowSR E next Tt len (parts.toList.map fun (i, x) => (i, ro x)) = some q) (z : el q.τ) (hn : next ∈ (q.upd z).map (·.1) → ¬ U next) :
    Done E w0 T Fz0 (fun i => U i ∨ i ∈ (q.upd z).map (·.1)) (updF h (q.upd z)) ρ Fz w o a (q.val z) := by
  unfold ptrRowSR at hq
  split at hq
  · rename_i e hu
    split at hq
    · rename_i zc hz
      split at hq
      · rename_i cs hf
        replace hq := cond_some hq; obtain ⟨hle, hq⟩ := hq
        cases hq
        rw [Bool.and_eq_true, Bool.and_eq_true] at hle
        have hle1 := Nat.le_of_ble_eq_true hle.1.1
        have hpos := Nat.le_of_ble_eq_true hle.1.2
        have hzl := Nat.eq_of_beq_eq_true hle.2
        have hn := hn (by simp [SR.now])
        obtain ⟨i, zv, hi, hz1, rfl⟩ := zeroOf_some hz
        have hco : E.P.cellsOf e = i.size := by simp [Program.cellsOf, hi]
        have hzs : zv.cells.size = i.size := by rw [← hco, ← hzl]; simp
        have hmade := made_flat zv.cells len (by rw [hzs, ← hco]; exact hpos)
        have hz2 : All2 (ACRep w ρ Fz) ((List.replicate len (zv.cells.toList.map ofConst1)).flatten) (madeCells zv.cells (len * zv.cells.size)).toList := by
          rw [hmade]
          have : (List.replicate len (zv.cells.toList.map ofConst1)).flatten = ((List.replicate len zv.cells.toList).flatten).map ofConst1 := by rw [List.map_flatten, List.map_replicate]
          rw [this]
          exact ofConsts_rep _
        obtain ⟨ov, hov, hrep⟩ := fill_ok _ (fun i => some (i * E.P.cellsOf e, E.P.cellsOf e)) (fun _ _ h => h) R parts.toList ro _ (madeCells zv.cells (len * zv.cells.size)) cs hp hz2 hf
        rw [hco] at hov hle1
        rw [hzs] at hov
        have hr := run_buildSlice (P := E.P) w Tt e i zv len (parts.map fun (i, x) => (i, a.eval x)) ov hu hi hz1 hle1 (by rw [Array.toList_map]; exact hov)
        have m := mono_alloc R next hn (.cells ov e) (.pointer (some ⟨w.heap.size, 0, none⟩))
        obtain ⟨R', m'⟩ := R.fresh next hn (.box e cs) (.cells ov e) (.pointer (some ⟨w.heap.size, 0, none⟩)) rfl rfl (fun b hb => by cases hb; rfl)
          ⟨w.heap.size, ov, rfl, heap_alloc_new w _, hrep.imp fun _ _ => ACRep_mono m⟩
        refine Done.weakU (U := fun i => U i ∨ i = next) ⟨.slice (some ⟨w.heap.size, 0, none⟩) len len, _, _, Fz, .inl (by simp [execOp, ho, hr]), R', m', ?_⟩ fun i hi => hi.imp id fun e => by simp [SR.now, e]
        refine ⟨#[.pointer (some ⟨w.heap.size, 0, none⟩), .int .i64 (len : Int)], ?_, ⟨w.heap.size, by simp, rfl⟩, rfl, trivial⟩
        rw [fnV_ix (by decide) rfl]
        rfl
      · cases hq
    · cases hq
  · cases hq
end
end Go.Sx
