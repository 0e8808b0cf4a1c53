/- What leaves the memory as it is; and all operations together. Any program. -/
import Derived.Test.YtjgpacfhokpfdaaSx26
set_option linter.unusedVariables false
set_option linter.unusedSimpArgs false
namespace Go.Sx
open Go.RowKit

section
variable {E : Env} {w0 w : World} {T Fz0 Fz U : Nat → Prop} {h hr : Hp} {ρ : Nat → Option Value} {o : Oper} {a : Act}
theorem part_run {Tt : TypeId} {cs : List AC} {cv : Array Value} {off : Nat} {v : AV} (hp : partC E Tt cs off = some v) (hc : All2 (ACRep w ρ Fz) cs cv.toList) : ∃ u, (part Tt cv off).run E.P w = .ok u w ∧ AVRep w ρ Fz v u := by
  unfold partC at hp
  cases ht : E.P.underlying Tt with
  | none => rw [ht] at hp; cases hp
  | some d =>
    rw [ht] at hp
    simp only at hp
    unfold part
    cases hag : isAggT E Tt with
    | true =>
      rw [hag] at hp
      simp only [cond_true] at hp
      cases hle : Nat.ble (off + E.P.cellsOf Tt) cs.length with
      | false => rw [hle] at hp; cases hp
      | true =>
        rw [hle] at hp
        simp only [cond_true, Option.some.injEq] at hp
        subst hp
        refine ⟨.agg (cv.extract off (off + E.P.cellsOf Tt)), ?_, ⟨_, rfl, ?_⟩⟩
        · simp only [Sem.run_bind, isAgg_run ht, hag, Result.andThen_ok, if_true, sizeOf_run ht, Sem.run_pure]
        · have := (hc.drop off).take (E.P.cellsOf Tt)
          rw [Array.toList_extract]
          simpa [List.extract_eq_take_drop] using this
    | false =>
      rw [hag] at hp
      simp only [cond_false] at hp
      cases hg : cs[off]? with
      | none => rw [hg] at hp; cases hp
      | some c =>
        rw [hg] at hp
        simp only [Option.some.injEq] at hp
        subst hp
        obtain ⟨u, hu, hrep⟩ := hc.get hg
        refine ⟨u, ?_, hrep⟩
        simp only [Sem.run_bind, isAgg_run ht, hag, Result.andThen_ok, if_false, Bool.false_eq_true]
        have : cv[off]? = some u := by simpa using hu
        simp [this]
theorem field_ok (R : RelM w0 T Fz0 U h ρ Fz w) {Tt : TypeId} {x : Operand} {f : Nat} (ho : o.op = .field Tt x f) {fd : Field} (hf : fieldOf E Tt f = some fd) {cs : List AC} (hx : AVRep w ρ Fz (.agg cs) (a.eval x)) {v : AV} (hp : partC E fd.type cs fd.offset = some v) :
    Done E w0 T Fz0 U h ρ Fz w o a (.v v) := by
  obtain ⟨cv, he, hc⟩ := hx
  obtain ⟨u, hu, hrep⟩ := part_run hp hc
  unfold fieldOf at hf
  cases ht : E.P.underlying Tt with
  | none => rw [ht] at hf; cases hf
  | some d =>
    rw [ht] at hf
    cases d <;> try (cases hf; done)
    rename_i fs
    refine Done.same R (v := u) ?_ hrep
    simp only at hf
    simp [execOp, ho, he, Instr.field, run_underlying ht, hf, asAgg, hu]
theorem fieldAddr_exe {Tt : TypeId} {x : Operand} {f : Nat} (ho : o.op = .fieldAddr Tt x f) {fd : Field} (hf : fieldOf E Tt f = some fd) (hz : E.P.cellsOf fd.type ≠ 0) {g off : Nat} (hx : a.eval x = .pointer (some ⟨g, off, none⟩)) :
    (execOp a.eval o).run E.P w = .ok (.value (.pointer (some ⟨g, off + fd.offset, none⟩))) w := by
  unfold fieldOf at hf
  cases ht : E.P.underlying Tt with
  | none => rw [ht] at hf; cases hf
  | some d =>
    rw [ht] at hf
    cases d <;> try (cases hf; done)
    rename_i fs
    simp only at hf
    cases hi : E.P.info? fd.type with
    | none => simp [Program.cellsOf, hi] at hz
    | some i =>
      have hz' : ¬ i.size = 0 := by simpa [Program.cellsOf, hi] using hz
      simp [execOp, ho, hx, Instr.fieldAt, run_underlying ht, hf, Instr.sureAddr, fieldPlace, sizeOf, typeInfo, hi, hz', Addr.add_lit]
theorem fieldAddr_p (R : RelM w0 T Fz0 U h ρ Fz w) {Tt : TypeId} {x : Operand} {f : Nat} (ho : o.op = .fieldAddr Tt x f) {fd : Field} (hf : fieldOf E Tt f = some fd) (hz : E.P.cellsOf fd.type ≠ 0) {id off : Nat} (hx : ACRep w ρ Fz (.p id off) (a.eval x)) :
    Done E w0 T Fz0 U h ρ Fz w o a (.c (.p id (off + fd.offset))) := by
  obtain ⟨g, hid, he⟩ := (hx : ∃ g, ρ id = some (.pointer (some ⟨g, 0, none⟩)) ∧ a.eval x = .pointer (some ⟨g, off, none⟩))
  exact Done.same R (fieldAddr_exe ho hf hz he) ⟨g, hid, rfl⟩
theorem fieldAddr_pr (R : RelM w0 T Fz0 U h ρ Fz w) {Tt : TypeId} {x : Operand} {f : Nat} (ho : o.op = .fieldAddr Tt x f) {fd : Field} (hf : fieldOf E Tt f = some fd) (hz : E.P.cellsOf fd.type ≠ 0) {t : Ty} {y : el t} {off : Nat} (hx : ACRep w ρ Fz (.pr t y off) (a.eval x)) :
    Done E w0 T Fz0 U h ρ Fz w o a (.c (.pr t y (off + fd.offset))) := by
  obtain ⟨g, o', row, hfz, he, hc, hk⟩ := (hx : ∃ g o row, Fz g ∧ a.eval x = .pointer (some ⟨g, o + off, none⟩) ∧ (∀ j u, row[j]? = some u → w.cell? ⟨g, o + j, none⟩ = some u) ∧ KI w Fz t y row)
  exact Done.same R (fieldAddr_exe ho hf hz he) ⟨g, o', row, hfz, by rw [Nat.add_assoc], hc, hk⟩
theorem fieldAddr_pe (R : RelM w0 T Fz0 U h ρ Fz w) {Tt : TypeId} {x : Operand} {f : Nat} (ho : o.op = .fieldAddr Tt x f) {fd : Field} (hf : fieldOf E Tt f = some fd) (hz : E.P.cellsOf fd.type ≠ 0) {id s : Nat} {i : Int} {off : Nat} (hx : ACRep w ρ Fz (.pe id s i off) (a.eval x)) :
    Done E w0 T Fz0 U h ρ Fz w o a (.c (.pe id s i (off + fd.offset))) := by
  obtain ⟨g, n, c, hid, he⟩ := (hx : ∃ g n c, (∃ u, ρ id = some u ∧ gval u = .slice (some ⟨g, 0, none⟩) n c) ∧ a.eval x = .pointer (some ⟨g, i.toNat * s + off, none⟩))
  exact Done.same R (fieldAddr_exe ho hf hz he) ⟨g, n, c, hid, by rw [Nat.add_assoc]⟩
theorem indexAddr_exe {Tt : TypeId} {x ix : Operand} (ho : o.op = .indexAddr Tt x ix) {e : Nat} (hu : E.P.underlying Tt = some (.slice e)) {d : TypeDesc} (he : E.P.info? e ≠ none) {g off n c : Nat} (hx : a.eval x = .slice (some ⟨g, off, none⟩) n c) {k : IntKind} {i : Int} (hi : a.eval ix = .int k i)
    (h0 : 0 ≤ i) (h1 : i < (n : Int)) : (execOp a.eval o).run E.P w = .ok (.value (.pointer (some ⟨g, off + i.toNat * E.P.cellsOf e, none⟩))) w := by
  cases hi' : E.P.info? e with
  | none => exact absurd hi' he
  | some inf =>
    have hsz : E.P.cellsOf e = inf.size := by simp [Program.cellsOf, hi']
    simp [execOp, ho, hx, hi, Instr.indexAt, asIntOf, run_underlying hu, h0, h1, sizeOf, typeInfo, hi', hsz, Addr.add_lit]
theorem indexAddr_arr (R : RelM w0 T Fz0 U h ρ Fz w) {Tt : TypeId} {x ix : Operand} (ho : o.op = .indexAddr Tt x ix) {n e : Nat} (hu : E.P.underlying Tt = some (.array n e)) {inf : TypeInfo} (he : E.P.info? e = some inf) {id off : Nat} (hx : ACRep w ρ Fz (.p id off) (a.eval x))
    {k : IntKind} {m : Int} (hi : a.eval ix = .int k m) (h0 : 0 ≤ m) (h1 : m < (n : Int)) : Done E w0 T Fz0 U h ρ Fz w o a (.c (.p id (off + m.toNat * E.P.cellsOf e))) := by
  obtain ⟨g, hid, hv⟩ := (hx : ∃ g, ρ id = some (.pointer (some ⟨g, 0, none⟩)) ∧ a.eval x = .pointer (some ⟨g, off, none⟩))
  have hsz : E.P.cellsOf e = inf.size := by simp [Program.cellsOf, he]
  have hexe : (execOp a.eval o).run E.P w = .ok (.value (.pointer (some ⟨g, off + m.toNat * E.P.cellsOf e, none⟩))) w := by
    simp [execOp, ho, hv, hi, Instr.indexAt, Instr.sureAddr, asIntOf, run_underlying hu, h0, h1, sizeOf, typeInfo, he, hsz, Addr.add_lit]
  exact Done.same R hexe ⟨g, hid, rfl⟩
theorem indexAddr_dp (EOK : EnvOk E) (R : RelM w0 T Fz0 U h ρ Fz w) (hsub : ∀ id ob, hr id = some ob → h id = some ob) {Tt : TypeId} {x ix : Operand} (ho : o.op = .indexAddr Tt x ix) {e : Nat} {t : Ty} (hel : elemOf E Tt = some (e, t)) {c : AC} (hx : ACRep w ρ Fz c (a.eval x))
    {k : IntKind} {i : Int} (hi : a.eval ix = .int k i) {id : Nat} {xs : List (el t)} (hrd : dpO hr e t c = some (id, xs)) (h0 : 0 ≤ i) (h1 : i < (xs.length : Int)) : Done E w0 T Fz0 U h ρ Fz w o a (.c (.pe id (sz t) i 0)) := by
  obtain ⟨hu, hty⟩ := elemOf_some hel
  have ok := EOK e t hty
  obtain ⟨inf, z, hinf, _, _⟩ := ok.zero
  have Rr := R.less hsub
  cases c with
  | o id' =>
    simp only [dpO] at hrd
    cases hob : hr id' with
    | none => rw [hob] at hrd; cases hrd
    | some ob =>
      rw [hob] at hrd
      cases ob with
      | dp e' t' xs' =>
        simp only at hrd
        cases has : (SlV.mk e' t' xs').as e t with
        | none => rw [has] at hrd; cases hrd
        | some ys =>
          rw [has] at hrd
          cases hrd
          have := as_some has; cases this
          obtain ⟨u, hid, ⟨v, bl, rfl, hd, _⟩, hgv⟩ := Rr.oRep hob hx
          obtain ⟨v', vs, bls, hv', hown, _⟩ := hd
          · cases hv'
            have hgv : v = a.eval x := hgv
            rcases hown.2 with ⟨hn, hn0⟩ | ⟨g, cap, cur, hv, _⟩
            · rw [hn0] at h1; omega
            · have hexe := indexAddr_exe (w := w) ho hu (d := .bool) (by rw [hinf]; simp) (hgv.symm.trans hv) hi h0 h1
              rw [ok.sz, Nat.zero_add] at hexe
              exact Done.same R hexe ⟨g, xs.length, cap, ⟨_, hid, hv⟩, rfl⟩
      | _ => cases hrd
  | _ => simp [dpO] at hrd
theorem indexAddr_ok (EOK : EnvOk E) (R : RelM w0 T Fz0 U h ρ Fz w) (hsub : ∀ id ob, hr id = some ob → h id = some ob) {Tt : TypeId} {x ix : Operand} (ho : o.op = .indexAddr Tt x ix) {e : Nat} {t : Ty} (hel : elemOf E Tt = some (e, t)) {c : AC} (hx : ACRep w ρ Fz c (a.eval x))
    {k : IntKind} {i : Int} (hi : a.eval ix = .int k i) {xs : List (el t)} (hrd : asRead hr e t c = some xs) (h0 : 0 ≤ i) (h1 : i < (xs.length : Int)) :
    (∀ id e' t' xs', c = .o id → hr id = some (.own e' t' xs') → Done E w0 T Fz0 U h ρ Fz w o a (.c (.pe id (sz t) i 0))) ∧
    ((∀ id e' t' xs', c = .o id → hr id ≠ some (.own e' t' xs')) → Done E w0 T Fz0 U h ρ Fz w o a (.c (.pr t (xs.getD i.toNat (dflt t)) 0))) := by
  obtain ⟨hu, hty⟩ := elemOf_some hel
  have ok := EOK e t hty
  obtain ⟨inf, z, hinf, _, _⟩ := ok.zero
  have Rr := R.less hsub
  refine ⟨fun id e' t' xs' hc hob => ?_, fun hno => ?_⟩
  · subst hc
    have hid : ρ id = some (a.eval x) := Rr.oOwn hob hx
    simp only [asRead, slc, hob] at hrd
    have := as_some hrd; cases this
    obtain ⟨v', hv', vs, hown, hrows⟩ := Rr.objs id _ hob
    rw [hid] at hv'; cases hv'
    rcases hown.2 with ⟨hn, hn0⟩ | ⟨g, cap, cur, hv, _⟩
    · rw [hn0] at h1; omega
    · have hexe := indexAddr_exe (w := w) ho hu (d := .bool) (by rw [hinf]; simp) hv hi h0 h1
      rw [ok.sz, Nat.zero_add] at hexe
      exact Done.same R hexe ⟨g, xs.length, cap, ⟨_, hid, by rw [hv]; rfl⟩, rfl⟩
  · have hk := read_KI (Fz' := Fz) Rr (fun _ h => h) hrd hx (fun id hc b hl => by
      obtain ⟨e', t', xs', v', hob | hob, _⟩ := hl
      · exact absurd hob (hno id e' t' xs' hc)
      · subst hc; simp [asRead, slc, hob] at hrd)
    obtain ⟨A, cp, hv, hl, hrows⟩ := hk
    have hlt : i.toNat < xs.length := by omega
    obtain ⟨g, off, row, rfl, hfz, hcl, hki⟩ := hrows i.toNat hlt
    have hv' : a.eval x = .slice (some ⟨g, off, none⟩) xs.length cp := by simpa using hv
    have hexe := indexAddr_exe (w := w) ho hu (d := .bool) (by rw [hinf]; simp) hv' hi h0 h1
    rw [ok.sz] at hexe
    rw [getD_get _ _ _ hlt]
    exact Done.same R hexe ⟨g, off + i.toNat * sz t, row, hfz, rfl, hcl, hki⟩
theorem index_ok (R : RelM w0 T Fz0 U h ρ Fz w) {Tt : TypeId} {x ix : Operand} (ho : o.op = .index Tt x ix) {s : ByteArray} (hu : E.P.underlying Tt = some .string) (hx : a.eval x = .string s) {k : IntKind} {i : Int} (hi : a.eval ix = .int k i) (h0 : 0 ≤ i) (h1 : i < (s.size : Int)) :
    Done E w0 T Fz0 U h ρ Fz w o a (.c (.int .u8 (s.data.toList.getD i.toNat 0).toNat)) := by
  have hlt : i.toNat < s.size := by omega
  have hlt2 : i.toNat < s.data.size := hlt
  have hg : s[i.toNat]? = some s[i.toNat] := by simp [hlt]
  refine Done.same R (v := .int .u8 (s[i.toNat]).toNat) ?_ ?_
  · simp [execOp, ho, hx, hi, Instr.index, asIntOf, run_underlying hu, h0, hlt]
  · have : s.data.toList.getD i.toNat 0 = s[i.toNat] := by
      rw [List.getD_eq_getElem?_getD, Array.getElem?_toList, Array.getElem?_eq_getElem hlt2]
      rfl
    show Value.int .u8 _ = Value.int .u8 _
    rw [this]
theorem len_ok (R : RelM w0 T Fz0 U h ρ Fz w) (hsub : ∀ id ob, hr id = some ob → h id = some ob) {x : Operand} {Tt e : TypeId} (ho : o.op = .call { callee := .builtin .len, args := #[x], argTypes := #[Tt] }) {c : AC} (hx : ACRep w ρ Fz c (a.eval x)) {n : Nat} (hn : lenS hr c = some n)
    (hu : E.P.underlying Tt = some (.slice e)) : Done E w0 T Fz0 U h ρ Fz w o a (.c (.int .i64 (n : Int))) := by
  have Rr := R.less hsub
  have viaSl : ∀ {A cp}, a.eval x = .slice A n cp → Done E w0 T Fz0 U h ρ Fz w o a (.c (.int .i64 (n : Int))) := by
    intro A cp hv
    refine Done.same R (v := .int .i64 n) ?_ rfl
    simp [execOp, ho, resolve, invoke, builtin, hv, Builtin.len_, run_underlying hu, goInt]
  cases c with
  | fn f caps =>
    unfold lenS at hn
    split at hn
    · cases ‹AC.fn f caps = AC.nilsl›
    · rename_i f' id off k m he
      cases he
      replace hn := cond_some hn; obtain ⟨hf, hn⟩ := hn
      cases hn
      obtain ⟨cv, hv, hcv⟩ := (hx : ∃ cv, a.eval x = fnV f cv ∧ All2 (ACRep0 w ρ Fz) [.p id off, .int k m] cv.toList)
      obtain ⟨g, _, hg⟩ := slV_of hf hcv
      exact viaSl (hv.trans hg)
    · cases ‹AC.fn f caps = AC.o _›
    · simp [slc] at hn
  | nilsl =>
    simp only [lenS, Option.some.injEq] at hn
    subst hn
    exact viaSl hx
  | sl e' t' xs' =>
    simp only [lenS, slc, Option.some.injEq] at hn
    subst hn
    obtain ⟨A, cp, hv, _⟩ := (show KI w Fz (.sl e' t') xs' [a.eval x] from hx)
    exact viaSl (A := A) (cp := cp) (by simpa using hv)
  | slk q e' t' xs' =>
    simp only [lenS, slc, Option.some.injEq] at hn
    subst hn
    obtain ⟨A, cp, hv, _⟩ := (hx : KI w Fz (.sl e' t') xs' [a.eval x] ∧ _).1
    exact viaSl (A := A) (cp := cp) (by simpa using hv)
  | o id =>
    simp only [lenS, slc] at hn
    cases hob : hr id with
    | none => rw [hob] at hn; cases hn
    | some ob =>
      rw [hob] at hn
      obtain ⟨v', hid, hrep, hgv⟩ := Rr.oRep hob hx
      cases ob with
      | box ty cs => cases hn
      | own e' t' xs' =>
        simp only [Option.some.injEq] at hn
        subst hn
        obtain ⟨vs, hown, _⟩ := hrep
        rw [own_gval hown] at hgv
        subst hgv
        rcases hown.2 with ⟨hv, h0⟩ | ⟨g, cap, cur, hv, _⟩
        · exact viaSl (A := none) (cp := 0) (by rw [hv, h0])
        · exact viaSl hv
      | fro e' t' xs' =>
        simp only [Option.some.injEq] at hn
        subst hn
        rw [← hgv] at *
        obtain ⟨A, cp, hv, _⟩ := hrep
        exact viaSl (A := A) (cp := cp) (by simpa using hv)
      | mp T n es => cases hn
      | mq T t es => cases hn
      | dp e' t' xs' =>
        simp only [Option.some.injEq] at hn
        subst hn
        obtain ⟨u, bl, rfl, ⟨v, vs, bls, hv', hown, _⟩, _⟩ := hrep
        cases hv'
        have hgv : u = a.eval x := hgv
        subst hgv
        rcases hown.2 with ⟨hv, h0⟩ | ⟨g, cap, cur, hv, _⟩
        · exact viaSl (A := none) (cp := 0) (by rw [hv, h0])
        · exact viaSl hv
      | dh e t xs i off nm => cases hn
  | _ => simp [lenS, slc] at hn
theorem slen_ok (R : RelM w0 T Fz0 U h ρ Fz w) {x : Operand} {Tt : TypeId} (ho : o.op = .call { callee := .builtin .len, args := #[x], argTypes := #[Tt] }) {s : ByteArray} (hx : a.eval x = .string s)
    (hu : E.P.underlying Tt = some .string) : Done E w0 T Fz0 U h ρ Fz w o a (.c (.int .i64 (s.size : Int))) := by
  refine Done.same R (v := .int .i64 s.size) ?_ rfl
  simp [execOp, ho, resolve, invoke, builtin, hx, Builtin.len_, run_underlying hu, goInt]

/-! numbers -/
theorem eqGuard_int (op : BinOp) (t : TypeId) (x y : Operand) (k k' : IntKind) (m n : Int) : (eqGuard op t x y (.int k m) (.int k' n)).run E.P w = .ok () w := by
  cases op <;> simp [eqGuard]
theorem eqGuard_bool (op : BinOp) (t : TypeId) (x y : Operand) (m n : Bool) : (eqGuard op t x y (.bool m) (.bool n)).run E.P w = .ok () w := by
  cases op <;> simp [eqGuard]
theorem eqGuard_str (op : BinOp) (t : TypeId) (x y : Operand) (m n : ByteArray) : (eqGuard op t x y (.string m) (.string n)).run E.P w = .ok () w := by
  cases op <;> simp [eqGuard]
theorem binI_ok (R : RelM w0 T Fz0 U h ρ Fz w) {op : BinOp} {Tt Ty' : TypeId} {x y : Operand} (ho : o.op = .binOp op Tt x y Ty') {k k' : IntKind} {m n : Int} (hx : a.eval x = .int k m) (hy : a.eval y = .int k' n) (hk : (isShift op || decide (k = k')) = true)
    (hc : ∀ c ∈ (binI op k m n).1, c = true) : Done E w0 T Fz0 U h ρ Fz w o a (.c (binI op k m n).2) := by
  have key : ∃ v, (Go.binOp op Tt (.int k m) (.int k' n)).run E.P w = .ok v w ∧ ACRep w ρ Fz (binI op k m n).2 v := by
    cases op <;> simp only [isShift, Bool.true_or, Bool.false_or, decide_eq_true_eq] at hk <;> (try subst hk) <;> simp only [binI] at hc ⊢
    case quo =>
      have : ¬ n = 0 := by simpa using hc
      exact ⟨_, by simp [Go.binOp, Op.intDiv, this], rfl⟩
    case rem =>
      have : ¬ n = 0 := by simpa using hc
      exact ⟨_, by simp [Go.binOp, Op.intDiv, this], rfl⟩
    case shl =>
      have : ¬ n < 0 := by simpa using hc
      exact ⟨_, by simp [Go.binOp, Op.shift, this], rfl⟩
    case shr =>
      have : ¬ n < 0 := by simpa using hc
      exact ⟨_, by simp [Go.binOp, Op.shift, this], rfl⟩
    case and => exact ⟨_, by simp [Go.binOp, Op.intBits], rfl⟩
    case or => exact ⟨_, by simp [Go.binOp, Op.intBits], rfl⟩
    case xor => exact ⟨_, by simp [Go.binOp, Op.intBits], rfl⟩
    case andNot => exact ⟨_, by simp [Go.binOp, Op.intBits], rfl⟩
    all_goals exact ⟨_, by simp [Go.binOp, Op.intArith, Op.intCmp], rfl⟩
  obtain ⟨v, hv, hrep⟩ := key
  refine Done.same R (v := v) ?_ hrep
  simp [execOp, ho, hx, hy, eqGuard_int, hv]
theorem eq_nil_ptr {t e : TypeId} (h : E.P.underlying t = some (.pointer e)) (p : Option Addr) : (Op.equal t (.pointer p) (.pointer none)).run E.P w = .ok p.isNone w := by
  show (Op.equalIn (9999 + 1) t (.pointer p) (.pointer none)).run E.P w = _
  generalize 9999 = d
  cases p <;> simp [Op.equalIn, run_underlying h]
theorem lk_ok {α : Type} (R : RelM w0 T Fz0 U h ρ Fz w) {op : BinOp} {Tt Ty' : TypeId} {x y : Operand} {p : Option Addr} {n : Nat} {K : α → List Value → Prop} {xs : List α} {b : Bool} (ho : o.op = .binOp op Tt x y Ty') {e : TypeId} (hu : E.P.underlying Tt = some (.pointer e)) (hx : a.eval x = .pointer p) (hy : a.eval y = .pointer none) (hl : LkR w Fz n K xs p)
    (hb : (op = .eql ∧ b = xs.isEmpty) ∨ (op = .neq ∧ b = !xs.isEmpty)) : Done E w0 T Fz0 U h ρ Fz w o a (.c (.bool b)) := by
  refine Done.same R (v := .bool b) ?_ rfl
  cases xs with
  | nil =>
    have : p = none := hl
    subst this
    rcases hb with ⟨rfl, rfl⟩ | ⟨rfl, rfl⟩ <;> simp [execOp, ho, hx, hy, eqGuard, Go.binOp, eq_nil_ptr hu, Result.andThen]
  | cons z r =>
    obtain ⟨g, o', row, q, rfl, _⟩ := hl
    rcases hb with ⟨rfl, rfl⟩ | ⟨rfl, rfl⟩ <;> simp [execOp, ho, hx, hy, eqGuard, Go.binOp, eq_nil_ptr hu, Result.andThen]
theorem eq_nil_sl {t e : TypeId} (h : E.P.underlying t = some (.slice e)) (p : Option Addr) (n c : Nat) : (Op.equal t (.slice p n c) (.slice none 0 0)).run E.P w = .ok p.isNone w := by
  show (Op.equalIn (9999 + 1) t (.slice p n c) (.slice none 0 0)).run E.P w = _
  generalize 9999 = d
  cases p <;> simp [Op.equalIn, run_underlying h]
theorem slk_ok (R : RelM w0 T Fz0 U h ρ Fz w) {op : BinOp} {Tt Ty' : TypeId} {x y : Operand} {p : Option Addr} {n c : Nat} {b : Bool} (ho : o.op = .binOp op Tt x y Ty') {e : TypeId} (hu : E.P.underlying Tt = some (.slice e)) (hx : a.eval x = .slice p n c) (hy : a.eval y = .slice none 0 0)
    (hb : (op = .eql ∧ b = p.isNone) ∨ (op = .neq ∧ b = !p.isNone)) : Done E w0 T Fz0 U h ρ Fz w o a (.c (.bool b)) := by
  refine Done.same R (v := .bool b) ?_ rfl
  rcases hb with ⟨rfl, rfl⟩ | ⟨rfl, rfl⟩ <;> cases p <;> simp [execOp, ho, hx, hy, eqGuard, Go.binOp, eq_nil_sl hu, Result.andThen]
theorem binB_ok (R : RelM w0 T Fz0 U h ρ Fz w) {op : BinOp} {Tt Ty' : TypeId} {x y : Operand} (ho : o.op = .binOp op Tt x y Ty') {m n : Bool} (hx : a.eval x = .bool m) (hy : a.eval y = .bool n) (hu : E.P.underlying Tt = some .bool) {b : Bool} (hb : (op = .eql ∧ b = (m == n)) ∨ (op = .neq ∧ b = !(m == n))) :
    Done E w0 T Fz0 U h ρ Fz w o a (.c (.bool b)) := by
  have he := run_equalIn_bool' (P := E.P) w 9999 Tt m n hu
  have he' : (Op.equal Tt (.bool m) (.bool n)).run E.P w = .ok (m == n) w := he
  refine Done.same R (v := .bool b) ?_ rfl
  rcases hb with ⟨rfl, rfl⟩ | ⟨rfl, rfl⟩ <;> simp [execOp, ho, hx, hy, eqGuard_bool, Go.binOp, he']
theorem binS_ok (R : RelM w0 T Fz0 U h ρ Fz w) {op : BinOp} {Tt Ty' : TypeId} {x y : Operand} (ho : o.op = .binOp op Tt x y Ty') {m n : ByteArray} (hx : a.eval x = .string m) (hy : a.eval y = .string n) {v : AC} (hb : (op = .eql ∧ v = .bool (m == n)) ∨ (op = .neq ∧ v = .bool (m != n)) ∨ (op = .add ∧ v = .str (m ++ n) ∧ m.size + n.size ≤ 140737488351232)) :
    Done E w0 T Fz0 U h ρ Fz w o a (.c v) := by
  rcases hb with ⟨rfl, rfl⟩ | ⟨rfl, rfl⟩ | ⟨rfl, rfl, hl⟩
  · exact Done.same R (v := .bool (m == n)) (by simp [execOp, ho, hx, hy, eqGuard_str, Go.binOp, Op.stringOp]; exact (beq_toListBytes m n).symm) rfl
  · exact Done.same R (v := .bool (m != n)) (by simp [execOp, ho, hx, hy, eqGuard_str, Go.binOp, Op.stringOp]; rw [← beq_toListBytes m n]; simp [bne]) rfl
  · exact Done.same R (v := .string (m ++ n)) (by simp [execOp, ho, hx, hy, eqGuard_str, Go.binOp, Op.stringOp]; omega) rfl
/-- Structs of whole numbers. -/
theorem eqFields_ok (d : Nat) : ∀ (fs : List Field) (off : Nat) (cs cs' : List AC) (xs ys : Array Value) (q : Bool), intFields E fs off = true → cs.length = fs.length → All2 (ACRep w ρ Fz) cs (xs.toList.drop off) → All2 (ACRep w ρ Fz) cs' (ys.toList.drop off) → eqC cs cs' = some q →
    (Op.eqFields (d + 1) xs ys fs).run E.P w = .ok q w
  | [], off, cs, cs', xs, ys, q, _, hl, _, _, he => by
    have : cs = [] := List.eq_nil_of_length_eq_zero hl
    subst this
    cases cs' with
    | cons => simp [eqC] at he
    | nil => simp [eqC] at he; subst he; simp [Op.eqFields]
  | f :: fs, off, cs, cs', xs, ys, q, hf, hl, h1, h2, he => by
    cases cs with
    | nil => cases hl
    | cons c cs =>
    cases cs' with
    | nil => cases c <;> simp [eqC] at he
    | cons c' cs' =>
    cases c <;> try (simp [eqC] at he; done)
    rename_i k x
    cases c' <;> try (simp [eqC] at he; done)
    rename_i k' y
    simp only [eqC] at he
    cases hq : eqC cs cs' with
    | none => rw [hq] at he; cases he
    | some q' =>
    rw [hq] at he
    simp only at he
    cases hk : decide (k = k') with
    | false => rw [hk] at he; cases he
    | true =>
    rw [hk] at he
    simp only [cond_true, Option.some.injEq] at he
    have hkk : k = k' := of_decide_eq_true hk
    subst hkk
    simp only [intFields, Bool.and_eq_true] at hf
    obtain ⟨⟨⟨hi, ho⟩, hn⟩, hr⟩ := hf
    have ho := Nat.eq_of_beq_eq_true ho
    have hn : f.name ≠ "_" := by simpa using hn
    obtain ⟨v, vs, hv, hv1, hv2⟩ := all2_cons h1
    obtain ⟨u, us, hu, hu1, hu2⟩ := all2_cons h2
    have hv1 : v = .int k x := hv1
    have hu1 : u = .int k y := hu1
    subst hv1; subst hu1
    have hgx : xs[off]? = some (.int k x) := by
      have : (xs.toList.drop off)[0]? = some (.int k x) := by rw [hv]; rfl
      simpa using this
    have hgy : ys[off]? = some (.int k y) := by
      have : (ys.toList.drop off)[0]? = some (.int k y) := by rw [hu]; rfl
      simpa using this
    cases ht : E.P.underlying f.type with
    | none => rw [ht] at hi; cases hi
    | some dd =>
    rw [ht] at hi
    cases dd <;> try (cases hi; done)
    rename_i kk
    have hag : isAggT E f.type = false := by unfold isAggT; rw [ht]
    have hpx : (part f.type xs f.offset).run E.P w = .ok (.int k x) w := by
      unfold part
      simp only [Sem.run_bind, isAgg_run ht, hag, Result.andThen_ok, if_false, Bool.false_eq_true, ho, hgx, Sem.run_pure]
    have hpy : (part f.type ys f.offset).run E.P w = .ok (.int k y) w := by
      unfold part
      simp only [Sem.run_bind, isAgg_run ht, hag, Result.andThen_ok, if_false, Bool.false_eq_true, ho, hgy, Sem.run_pure]
    have ih := eqFields_ok d fs (off + 1) cs cs' xs ys q' hr (by simpa using hl) (by
      have : xs.toList.drop (off + 1) = vs := by rw [← List.drop_drop, hv]; rfl
      rw [this]; exact hv2) (by
      have : ys.toList.drop (off + 1) = us := by rw [← List.drop_drop, hu]; rfl
      rw [this]; exact hu2) hq
    have heq := run_equalIn_int (P := E.P) w d f.type k kk x y ht
    subst he
    simp only [Op.eqFields, hn, ne_eq, not_false_eq_true, if_true, Sem.run_bind, hpx, hpy, heq, Result.andThen_ok, Sem.run_ite]
    cases hxy : (x == y) with
    | true => simp only [Bool.not_true, Bool.false_eq_true, if_false, Bool.true_and]; exact ih
    | false => simp
theorem binA_ok (R : RelM w0 T Fz0 U h ρ Fz w) {op : BinOp} {Tt Ty' : TypeId} {x y : Operand} (ho : o.op = .binOp op Tt x y Ty') {cs cs' : List AC} (hx : AVRep w ρ Fz (.agg cs) (a.eval x)) (hy : AVRep w ρ Fz (.agg cs') (a.eval y)) (hp : plainStruct E Tt cs.length = true) {q : Bool} (hq : eqC cs cs' = some q)
    {b : Bool} (hb : (op = .eql ∧ b = q) ∨ (op = .neq ∧ b = !q)) : Done E w0 T Fz0 U h ρ Fz w o a (.c (.bool b)) := by
  obtain ⟨xv, hxe, hxc⟩ := hx
  obtain ⟨yv, hye, hyc⟩ := hy
  unfold plainStruct at hp
  cases ht : E.P.underlying Tt with
  | none => rw [ht] at hp; cases hp
  | some d =>
    rw [ht] at hp
    cases d <;> try (cases hp; done)
    rename_i fs
    simp only [Bool.and_eq_true, Bool.not_eq_true'] at hp
    obtain ⟨⟨⟨hn, hf⟩, hs⟩, hg⟩ := hp
    have hfs : E.P.fieldsOf Tt = fs := by simp [Program.fieldsOf, ht]
    have he := run_equalIn_struct (P := E.P) w 9999 Tt xv yv (by rw [hfs, ht]) hs
    rw [hfs, eqFields_ok (E := E) (w := w) (ρ := ρ) (Fz := Fz) 9998 fs.toList 0 cs cs' xv yv q hf (Nat.eq_of_beq_eq_true hn).symm (by simpa using hxc) (by simpa using hyc) hq] at he
    have he' : (Op.equal Tt (.agg xv) (.agg yv)).run E.P w = .ok q w := he
    have hgd := run_eqGuard_agg (P := E.P) w op Tt x y xv yv hg
    refine Done.same R (v := .bool b) ?_ rfl
    rcases hb with ⟨rfl, rfl⟩ | ⟨rfl, rfl⟩ <;> simp [execOp, ho, hxe, hye, hgd, Go.binOp, he']
end
end Go.Sx
