/- Literal arrays, slices of strings, of slices, of arrays. Any program. -/
import Derived.Test.YtjgpacfhokpfdaaSx11
set_option linter.unusedVariables false
set_option linter.unusedSimpArgs false
namespace Go.Sx
open Go.RowKit

section
variable {E : Env} {w0 w : World} {T Fz0 Fz U : Nat → Prop} {h hr : Hp} {ρ : Nat → Option Value} {o : Oper} {a : Act}
theorem build_arr_ok (R : RelM w0 T Fz0 U h ρ Fz w) {t : TypeId} {parts : Array (Nat × Operand)} (ho : o.op = .build t parts) {n : Nat} {e : TypeId} (hu : E.P.underlying t = some (.array n e)) {z : List AC} (hz : zeroOf E t = some z)
    {ie : TypeInfo} (hie : E.P.info? e = some ie) {ro : Operand → TV} (hp : ∀ p ∈ parts.toList, TVRep w ρ Fz (ro p.2) (a.eval p.2)) {cs : List AC} (hf : fillP (fun i => cond (Nat.blt i n) (some (i * E.P.cellsOf e, E.P.cellsOf e)) none) z (parts.toList.map fun (i, x) => (i, ro x)) = some cs) :
    Done E w0 T Fz0 U h ρ Fz w o a (.v (.agg cs)) := by
  obtain ⟨i, zv, hi, hz', rfl⟩ := zeroOf_some hz
  have hco : E.P.cellsOf e = ie.size := by simp [Program.cellsOf, hie]
  obtain ⟨ov, hov, hrep⟩ := fill_ok (fun i => cond (Nat.blt i n) (some (i * E.P.cellsOf e, E.P.cellsOf e)) none) (fun i => some (i * ie.size, ie.size)) (fun i p hp => by
    have := (by cases hb : Nat.blt i n <;> rw [hb] at hp <;> first | (cases hp; done) | exact hp : some (i * E.P.cellsOf e, E.P.cellsOf e) = some p)
    rw [← hco]; exact this) R parts.toList ro _ zv.cells cs hp (ofConsts_rep _) hf
  have hb : E.P.built t (parts.map fun (i, x) => (i, a.eval x)).toList = some ov := by
    unfold Program.built
    rw [hi, hu]
    simp only [hz', hie]
    rw [Array.toList_map]
    exact hov
  refine Done.same R (v := .agg ov) ?_ ⟨ov, rfl, hrep⟩
  simp [execOp, ho, run_build w t _ ov hb]

/-! slices -/
def OptI (v : Option Value) (d n : Int) : Prop := (v = none ∧ n = d) ∨ ∃ k, v = some (.int k n)
theorem bnd_ok {ro : Operand → TV} {x : Option Operand} {d n : Int} (hb : bnd ro x d = some n) (hx : ∀ y, x = some y → TVRep w ρ Fz (ro y) (a.eval y)) : OptI (x.map a.eval) d n := by
  cases x with
  | none => cases hb; exact .inl ⟨rfl, rfl⟩
  | some y =>
    have hy := hx y rfl
    simp only [bnd] at hb
    split at hb
    · rename_i k m he
      cases hb
      rw [he] at hy
      exact .inr ⟨k, congrArg some hy⟩
    · cases hb
theorem run_bound {P : Program} {k : IntKind} {i : Int} {y : Nat} {code : BoundsCode} (h0 : 0 ≤ i) (h1 : i ≤ y) (w : World) : (Instr.sliceBound (.int k i) y code).run P w = .ok i.toNat w := by
  have : (0 ≤ i ∧ i ≤ (y : Int)) := ⟨h0, h1⟩
  simp [Instr.sliceBound, asIntOf, this]
theorem run_bounds {P : Program} {b : Bool} {len cap : Nat} {lo hi : Option Value} {l u : Int} (hlo : OptI lo 0 l) (hhi : OptI hi (len : Int) u) (h0 : 0 ≤ l) (h1 : l ≤ u) (h2 : u ≤ (cap : Int)) (w : World) :
    (Instr.sliceBounds b len cap lo hi none).run P w = .ok (l.toNat, u.toNat, cap) w := by
  have hu : u ≤ ((u.toNat : Nat) : Int) := Int.self_le_toNat u
  have hl : l ≤ ((u.toNat : Nat) : Int) := by omega
  rcases hlo with ⟨rfl, rfl⟩ | ⟨k, rfl⟩ <;> rcases hhi with ⟨rfl, rfl⟩ | ⟨k', rfl⟩
  · simp [Instr.sliceBounds]
  · simp only [Instr.sliceBounds, Sem.run_bind, Sem.run_pure, Result.andThen_ok, run_bound (by omega : (0:Int) ≤ u) h2, Int.toNat_zero]
  · have hl' : l ≤ ((len : Nat) : Int) := by omega
    simp only [Instr.sliceBounds, Sem.run_bind, Sem.run_pure, Result.andThen_ok, run_bound h0 hl', Int.toNat_natCast]
  · simp only [Instr.sliceBounds, Sem.run_bind, Sem.run_pure, Result.andThen_ok, run_bound (by omega : (0:Int) ≤ u) h2, run_bound h0 hl]
theorem slice_str_ok (R : RelM w0 T Fz0 U h ρ Fz w) {Tt : TypeId} {x : Operand} {lo hi : Option Operand} (ho : o.op = .slice Tt x lo hi none) (hu : E.P.underlying Tt = some .string) {s : ByteArray} (hx : a.eval x = .string s)
    {l u : Int} (hlo : OptI (lo.map a.eval) 0 l) (hhi : OptI (hi.map a.eval) (s.size : Int) u) (h0 : 0 ≤ l) (h1 : l ≤ u) (h2 : u ≤ (s.size : Int)) :
    Done E w0 T Fz0 U h ρ Fz w o a (.c (.str (s.extract l.toNat u.toNat))) := by
  refine Done.same R (v := .string (s.extract l.toNat u.toNat)) ?_ rfl
  have hb := run_bounds (P := E.P) (b := false) (len := s.size) (cap := s.size) hlo hhi h0 h1 h2 w
  simp [execOp, ho, Instr.sliceAt, Instr.slice, run_underlying hu, hx, hb]
theorem KI_sub {Fz' : Nat → Prop} {e : Nat} {t : Ty} {xs : List (el t)} {A : Option Addr} {n c : Nat} (hk : KI w Fz' (.sl e t) xs [.slice A n c]) {l u : Nat} (h1 : l ≤ u) (h2 : u ≤ n) :
    KI w Fz' (.sl e t) ((xs.take u).drop l) [.slice (if c = l then A else A.map (·.add (l * sz t))) (u - l) (c - l)] := by
  obtain ⟨A', c', he, hc, hk⟩ := hk
  simp only [List.cons.injEq, Value.slice.injEq, and_true] at he
  obtain ⟨rfl, rfl, rfl⟩ := he
  have hlen : ((xs.take u).drop l).length = u - l := by rw [List.length_drop, List.length_take]; omega
  refine ⟨_, _, by rw [hlen], by rw [hlen]; omega, fun i hi => ?_⟩
  rw [hlen] at hi
  obtain ⟨g, o', row, rfl, hf, hcell, hki⟩ := hk (l + i) (by omega)
  rw [if_neg (by omega)]
  refine ⟨g, o' + l * sz t, row, by simp only [Option.map_some]; rw [Addr.add_lit], hf, fun j v hj => ?_, ?_⟩
  · have := hcell j v hj
    rwa [Nat.add_mul, ← Nat.add_assoc] at this
  · have : ((xs.take u).drop l)[i]'(by rw [hlen]; exact hi) = xs[l + i]'(by omega) := by rw [List.getElem_drop, List.getElem_take]
    rw [this]; exact hki
theorem slice_sl_ok (EOK : EnvOk E) (R : RelM w0 T Fz0 U h ρ Fz w) (hsub : ∀ id ob, hr id = some ob → h id = some ob) {Tt : TypeId} {x : Operand} {lo hi : Option Operand} (ho : o.op = .slice Tt x lo hi none) {e : Nat} (hu : E.P.underlying Tt = some (.slice e)) {t : Ty} (hty : assoc E.tys e = some t)
    {c : AC} (hx : ACRep w ρ Fz c (a.eval x)) {xs : List (el t)} (hrd : asRead hr e t c = some xs) {l u : Int} (hlo : OptI (lo.map a.eval) 0 l) (hhi : OptI (hi.map a.eval) (xs.length : Int) u) (h0 : 0 ≤ l) (h1 : l ≤ u) (h2 : u ≤ (xs.length : Int)) :
    Done E w0 T Fz0 U (updF h (frzC hr c)) ρ Fz w o a (.c (.sl e t ((xs.take u.toNat).drop l.toNat))) := by
  have hfe : frzC hr c = frz hr [c] := by
    cases c <;> rfl
  obtain ⟨Fz', R', m, h3, h4⟩ := frz_ok R hsub [c]
  have hk := read_KI (Fz' := Fz') (R.less hsub) m.fz hrd hx fun id hc b hl => h4 id (by subst hc; simp [oIds]) b hl
  obtain ⟨A, cp, he, hcp, hk'⟩ := id hk
  simp only [List.cons.injEq, and_true] at he
  rw [he] at hk
  have hsub' := KI_sub hk (l := l.toNat) (u := u.toNat) (by omega) (by omega)
  have ok := EOK e t hty
  obtain ⟨i, z, hi', hz, _⟩ := ok.zero
  have hco : i.size = sz t := by rw [← ok.sz]; simp [Program.cellsOf, hi']
  have hb := run_bounds (P := E.P) (b := true) (len := xs.length) (cap := cp) hlo hhi h0 h1 (by omega) w
  rw [hfe]
  refine ⟨_, w, ρ, Fz', .inl ?_, R', m, hsub'⟩
  simp [execOp, ho, Instr.sliceAt, Instr.slice, run_underlying hu, he, hb, sizeOf, typeInfo, hi', hco]
/-- A variable that is only read from now on. -/
theorem RelM.boxfro (R : RelM w0 T Fz0 U h ρ Fz w) (id1 g : Nat) (hl : Live h ρ id1 g) :
    RelM w0 T Fz0 U (updF h [(id1, none)]) ρ (fun b => Fz b ∨ b = g) w ∧ Mono w ρ Fz w ρ (fun b => Fz b ∨ b = g) := by
  have m : Mono w ρ Fz w ρ (fun b => Fz b ∨ b = g) := ⟨fun _ _ e => .inl e, fun _ e => .inl e, fun _ _ => rfl⟩
  have hold : ∀ id o, updF h [(id1, none)] id = some o → id ≠ id1 ∧ h id = some o := by
    intro id o ho
    simp only [updF] at ho
    by_cases hi : id = id1
    · rw [if_pos hi] at ho; cases ho
    · rw [if_neg hi] at ho; exact ⟨hi, ho⟩
  have hlive : ∀ id b, Live (updF h [(id1, none)]) ρ id b → id ≠ id1 ∧ Live h ρ id b := fun id b ⟨o, v, e1, e2, e3⟩ => ⟨(hold id o e1).1, o, v, (hold id o e1).2, e2, e3⟩
  obtain ⟨m1, m2, m3⟩ := R.mt id1 g hl
  refine ⟨⟨R.env, R.frame, fun b hb => .inl (R.fz0 b hb), fun b hb => hb.elim (R.fzlt b) (fun e => e ▸ m2), fun b hb => hb.elim (R.fznew b) (fun e => .inr (e ▸ m3)), R.dom, fun id o ho => ?_, fun id b hb => ?_, fun id id' b hb hb' => R.dis id id' b (hlive id b hb).2 (hlive id' b hb').2⟩, m⟩
  · obtain ⟨v, e, hr'⟩ := R.objs id o (hold id o ho).2
    exact ⟨v, e, ObjRep_mono m (fun _ _ _ => rfl) hr'⟩
  · obtain ⟨hne, hl'⟩ := hlive id b hb
    obtain ⟨n1, n2, n3⟩ := R.mt id b hl'
    refine ⟨?_, n2, n3⟩
    rintro (hz | rfl)
    · exact n1 hz
    · exact hne (R.dis id id1 b hl' hl)
theorem slice_arr_ok (EOK : EnvOk E) (R : RelM w0 T Fz0 U h ρ Fz w) (hsub : ∀ id ob, hr id = some ob → h id = some ob) {Tt : TypeId} {x : Operand} (ho : o.op = .slice Tt x none none none) {n e : Nat} (hu : E.P.underlying Tt = some (.array n e)) {t : Ty} (hty : assoc E.tys e = some t)
    {id1 : Nat} (hx : ACRep w ρ Fz (.p id1 0) (a.eval x)) {ty : Nat} {cs : List AC} (hb : hr id1 = some (.box ty cs)) {xs : List (el t)} (hd : decN hr t n cs = some xs) (hno : noO cs = true) :
    Done E w0 T Fz0 U (updF h [(id1, none)]) ρ Fz w o a (.c (.sl e t xs)) := by
  obtain ⟨g, hid, he⟩ := (hx : ∃ g, ρ id1 = some (.pointer (some ⟨g, 0, none⟩)) ∧ a.eval x = .pointer (some ⟨g, 0, none⟩))
  obtain ⟨pv, hpv, g', cv, rfl, hg, hc⟩ := R.objs id1 _ (hsub id1 _ hb)
  rw [hid] at hpv; cases hpv
  have hlv : Live h ρ id1 g := ⟨_, _, hsub id1 _ hb, rfl, hid, rfl⟩
  obtain ⟨R', m⟩ := R.boxfro id1 g hlv
  have ok := EOK e t hty
  obtain ⟨i, z, hi', hz, _⟩ := ok.zero
  have hco : i.size = sz t := by rw [← ok.sz]; simp [Program.cellsOf, hi']
  obtain ⟨hxl, hrows⟩ := decN_Rows (Fz' := fun b => Fz b ∨ b = g) (R.less hsub) m.fz ok.rd n cs xs cv.toList hd hc (by rw [noO_oIds hno]; intro id hi; cases hi)
  refine ⟨.slice (some ⟨g, 0, none⟩) n n, w, ρ, fun b => Fz b ∨ b = g, .inl ?_, R', m, ?_⟩
  · have hb := run_bounds (P := E.P) (b := false) (len := n) (cap := n) (lo := none) (hi := none) (l := 0) (u := (n : Int)) (.inl ⟨rfl, rfl⟩) (.inl ⟨rfl, rfl⟩) (by omega) (by omega) (by omega) w
    have hadd : (⟨g, 0, none⟩ : Addr).add (0 * i.size) = ⟨g, 0, none⟩ := by simp [Addr.add]
    simp [execOp, ho, Instr.sliceAt, Instr.sureAddr, run_underlying hu, he, hb, sizeOf, typeInfo, hi', Addr.add]
  · show KI w (fun b => Fz b ∨ b = g) (.sl e t) xs [_]
    refine ⟨some ⟨g, 0, none⟩, n, by rw [hxl], by omega, fun i hi => ⟨g, 0, _, rfl, .inr rfl, fun j u hj => ?_, hrows.2 i hi⟩⟩
    rw [List.getElem?_take] at hj
    split at hj
    · rw [List.getElem?_drop] at hj
      have := cells_of_blk hg (i * sz t + j) u hj
      rw [Nat.zero_add] at this ⊢
      exact this
    · cases hj
theorem weakU' {U' : Nat → Prop} {h : Hp} {val : TV} (d : Done E w0 T Fz0 U h ρ Fz w o a val) (hu : ∀ i, U i → U' i) : Done E w0 T Fz0 U' h ρ Fz w o a val := by
  obtain ⟨v, w', ρ', Fz', h1, h2, h3, h4⟩ := d
  exact ⟨v, w', ρ', Fz', h1, h2.weakU hu, h3, h4⟩
/-- The beginning of a row of one's own, in its place. -/
theorem cut_ok (EOK : EnvOk E) (R : RelM w0 T Fz0 U h ρ Fz w) (hsub : ∀ id ob, hr id = some ob → h id = some ob) {ro : Operand → TV} {next : Nat} {Tt : TypeId} {x : Operand} {lo hi : Option Operand} {q : SR} (y : el q.τ) (hn : next ∈ (q.upd y).map (·.1) → ¬ U next) (ho : o.op = .slice Tt x lo hi none)
    (hx : TVRep w ρ Fz (ro x) (a.eval x)) (hh : ∀ y, hi = some y → TVRep w ρ Fz (ro y) (a.eval y)) (hq : cutSR E ro hr next Tt x lo hi = some q) (hc : ∀ c ∈ q.conds, c = true) :
    Done E w0 T Fz0 (fun i => U i ∨ i ∈ (q.upd y).map (·.1)) (updF h (q.upd y)) ρ Fz w o a (q.val y) := by
  unfold cutSR at hq
  split at hq
  · rename_i e hu
    split at hq
    · rename_i t id z hty hxo
      split at hq
      · rename_i xs k u hown hzv
        cases hq
        have c1 := of_decide_eq_true (hc (decide (0 ≤ u)) (by simp [SR.now]))
        have c2 := of_decide_eq_true (hc (decide (u ≤ (xs.length : Int))) (by simp [SR.now]))
        rw [hxo] at hx
        have hz := hh z rfl
        rw [hzv] at hz
        obtain ⟨vs, hrow, hrows, hcase⟩ := own_KO (R.less hsub) hown hx
        rcases hcase with ⟨h1, _⟩ | ⟨id', h1, hob, hid⟩
        · cases h1
        cases h1
        have hn' : ¬ U next := hn (by simp [SR.now])
        obtain ⟨m, rfl⟩ : ∃ m : Nat, u = m := ⟨u.toNat, (Int.toNat_of_nonneg c1).symm⟩
        have c2 : m ≤ xs.length := by omega
        have ok := EOK e t hty
        obtain ⟨i, z', hi', hz', _⟩ := ok.zero
        have hco : i.size = sz t := by rw [← ok.sz]; simp [Program.cellsOf, hi']
        have hne : next ≠ id := fun e => hn' (e ▸ (R.dom id _ hid).1)
        have hlen : (xs.take m).length = m := by rw [List.length_take]; omega
        have hrows' : Rows w Fz t (xs.take m) (vs.take (m * sz t)) := by
          have hle : m * sz t ≤ xs.length * sz t := Nat.mul_le_mul_right _ c2
          refine ⟨by rw [List.length_take, hlen, hrows.1]; omega, fun j hj => ?_⟩
          rw [hlen] at hj
          have hjl : (j + 1) * sz t ≤ m * sz t := Nat.mul_le_mul_right _ hj
          rw [Nat.succ_mul] at hjl
          have h9 := hrows.2 j (by omega)
          rw [List.getElem_take, List.drop_take, List.take_take, Nat.min_eq_left (by omega)]
          exact h9
        have hρn : ρ next = none := by
          cases hρ : ρ next with
          | none => rfl
          | some v => exact absurd (R.dom next v hρ).1 hn'
        have hlive : ∀ b, blkV (a.eval x) = some b → Live h ρ id b := fun b hb => ⟨_, _, hsub id _ hob, rfl, hid, blkOf hb⟩
        have fin : ∀ v1 : Value, v1.oneCell' = true → (∀ b, blkV v1 = some b → blkV (a.eval x) = some b) → w.ownsRow 0 e (sz t) v1 m (vs.take (m * sz t)) → (execOp a.eval o).run E.P w = .ok (.value v1) w →
            Done E w0 T Fz0 (fun i => U i ∨ i = next) (updF h [(id, none), (next, some (.own e t (xs.take m)))]) ρ Fz w o a (.c (.o next)) := by
          intro v1 ho1 hb1 hr1 hexe
          obtain ⟨R', m'⟩ := R.put (w' := w) (row := none) (U' := fun i => U i ∨ i = next) (h' := updF h [(id, none), (next, some (.own e t (xs.take m)))]) (World.grownBy.refl w none) next (.own e t (xs.take m)) v1 rfl ho1
            (fun b hb => by cases hb) (.inl hρn) (fun b hb => .inr ⟨id, hlive b (hb1 b (own_blkOf hr1 hb)), .inl (by simp [updF, Ne.symm hne])⟩) (fun _ h => .inl h) (.inr rfl) (by simp [updF]) (fun k ob hk hob => by
              simp only [updF, if_neg hk] at hob
              split at hob
              · cases hob
              · exact hob) ⟨_, by rw [hlen]; exact hr1, hrows'⟩
          exact ⟨_, w, _, Fz, .inl hexe, R', m', ⟨v1, if_pos rfl, own_gval hr1, ho1⟩⟩
        refine weakU' (U := fun i => U i ∨ i = next) ?_ (fun i hi => hi.imp (fun h => h) fun e => by simp [SR.now, e])
        rcases hrow.2 with ⟨hv, hn0⟩ | ⟨g, cap, cur, hv, hb0, hg, hnc, hcm, hcs, htk⟩
        · have hm0 : m = 0 := by omega
          subst hm0
          refine fin (.slice none 0 0) rfl (fun b hb => by cases hb) ⟨by simp, .inl ⟨rfl, rfl⟩⟩ ?_
          have hb := run_bounds (P := E.P) (b := true) (len := 0) (cap := 0) (lo := none) (hi := some (a.eval z)) (l := 0) (u := 0) (.inl ⟨rfl, rfl⟩) (.inr ⟨k, congrArg some (show a.eval z = _ from hz)⟩) (by omega) (by omega) (by omega) w
          simp [execOp, ho, Instr.sliceAt, Instr.slice, run_underlying hu, hv, hb, sizeOf, typeInfo, hi', hco]
        · refine fin (.slice (some ⟨g, 0, none⟩) m cap) rfl (fun b hb => by rw [hv]; exact hb) ⟨by rw [List.length_take, hrows.1]; have := Nat.mul_le_mul_right (sz t) c2; omega, .inr ⟨g, cap, cur, rfl, hb0, hg, by omega, hcm, hcs, ?_⟩⟩ ?_
          · rw [← htk, List.take_take, Nat.min_eq_left (Nat.mul_le_mul_right _ c2)]
          · have hb := run_bounds (P := E.P) (b := true) (len := xs.length) (cap := cap) (lo := none) (hi := some (a.eval z)) (l := 0) (u := m) (.inl ⟨rfl, rfl⟩) (.inr ⟨k, congrArg some (show a.eval z = _ from hz)⟩) (by omega) (by omega) (by omega) w
            simp [execOp, ho, Instr.sliceAt, Instr.slice, run_underlying hu, hv, hb, sizeOf, typeInfo, hi', hco, Addr.add_lit]
      · cases hq
    · rename_i t z hty hxo
      split at hq
      · rename_i k u hzv
        cases hq
        have c1 := of_decide_eq_true (hc (decide (u = 0)) (by simp [SR.now]))
        subst c1
        rw [hxo] at hx
        have hv : a.eval x = .slice none 0 0 := hx
        have hz := hh z rfl
        rw [hzv] at hz
        have ok := EOK e t hty
        obtain ⟨i, z', hi', hz', _⟩ := ok.zero
        have hco : i.size = sz t := by rw [← ok.sz]; simp [Program.cellsOf, hi']
        have hb := run_bounds (P := E.P) (b := true) (len := 0) (cap := 0) (lo := none) (hi := some (a.eval z)) (l := 0) (u := 0) (.inl ⟨rfl, rfl⟩) (.inr ⟨k, congrArg some (show a.eval z = _ from hz)⟩) (by omega) (by omega) (by omega) w
        refine weakU' (U := U) (Done.same (val := .v (.one .nilsl)) R (v := .slice none 0 0) ?_ rfl) (fun i hi => .inl hi)
        simp [execOp, ho, Instr.sliceAt, Instr.slice, run_underlying hu, hv, hb, sizeOf, typeInfo, hi', hco]
      · cases hq
    · cases hq
  · cases hq
end
end Go.Sx
