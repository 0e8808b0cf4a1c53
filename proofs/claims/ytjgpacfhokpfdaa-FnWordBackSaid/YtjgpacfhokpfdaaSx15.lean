/- Steps and regions. Any program. -/
import Derived.Test.YtjgpacfhokpfdaaSx14
import Derived.Orders
set_option linter.unusedVariables false
set_option linter.unusedSimpArgs false
namespace Go.Sx
open Go.RowKit

/-! ### forced values are the values -/
section
variable {R : Type}
theorem forceN_eq (n : Nat) (K : Nat → R) : forceN n K = K n := by cases n <;> rfl
theorem forceC0_eq (c : AC) (K : AC → R) : forceC0 c K = K c := by
  cases c with
  | slk q e t xs => cases q <;> rfl
  | _ => simp [forceC0, forceN_eq]
theorem forceC0s_eq : ∀ (cs : List AC) (K : List AC → R), forceC0s cs K = K cs
  | [], K => rfl
  | c :: r, K => by simp only [forceC0s, forceC0_eq]; exact forceC0s_eq r _
theorem forceC_eq (c : AC) (K : AC → R) : forceC c K = K c := by cases c <;> simp [forceC, forceC0_eq, forceC0s_eq]
theorem forceCs_eq : ∀ (cs : List AC) (K : List AC → R), forceCs cs K = K cs
  | [], K => rfl
  | c :: r, K => by simp only [forceCs, forceC_eq]; exact forceCs_eq r _
theorem forceA_eq (a : AV) (K : AV → R) : forceA a K = K a := by cases a <;> simp [forceA, forceC_eq, forceCs_eq]
theorem forceAs_eq : ∀ (cs : List AV) (K : List AV → R), forceAs cs K = K cs
  | [], K => rfl
  | c :: r, K => by simp only [forceAs, forceA_eq]; exact forceAs_eq r _
theorem forceV_eq (v : TV) (K : TV → R) : forceV v K = K v := by cases v <;> simp [forceV, forceA_eq, forceAs_eq]
theorem forceVs_eq : ∀ (cs : List TV) (K : List TV → R), forceVs cs K = K cs
  | [], K => rfl
  | c :: r, K => by simp only [forceVs, forceV_eq]; exact forceVs_eq r _
theorem forceO_eq (o : Option Obj) (K : Option Obj → R) : forceO o K = K o := by
  cases o with
  | none => rfl
  | some o => cases o <;> simp [forceO, forceCs_eq, forceN_eq]
theorem forceH_eq : ∀ (cs : List (Option Obj)) (K : List (Option Obj) → R), forceH cs K = K cs
  | [], K => rfl
  | c :: r, K => by simp only [forceH, forceO_eq]; exact forceH_eq r _
theorem setK_some {α : Type} : ∀ {l : List α} {d : Nat} {v : α} {K : List α → Option R} {r : R}, setK l d v K = some r → d < l.length ∧ K (l.set d v) = some r
  | [], _, _, _, _, h => by cases h
  | _ :: xs, 0, v, K, r, h => ⟨by simp, h⟩
  | x :: xs, d + 1, v, K, r, h => by
    obtain ⟨h1, h2⟩ := setK_some (l := xs) h
    exact ⟨by simpa using h1, by simpa using h2⟩
theorem snocK_eq {α : Type} : ∀ (l : List α) (v : α) (K : List α → R), snocK l v K = K (l ++ [v])
  | [], v, K => rfl
  | x :: xs, v, K => by rw [snocK, snocK_eq xs]; rfl
theorem putK_some {s : Tm} {d : Option Nat} {v : TV} {K : Tm → Option R} {r : R} (h : putK s d v K = some r) : ∃ s', K s' = some r ∧ s'.length = s.length ∧ ((d = none ∧ s' = s) ∨ ∃ i, d = some i ∧ i < s.length ∧ s' = s.set i v) := by
  cases d with
  | none => exact ⟨s, h, rfl, .inl ⟨rfl, rfl⟩⟩
  | some i =>
    simp only [putK, forceV_eq] at h
    obtain ⟨h1, h2⟩ := setK_some h
    exact ⟨_, h2, by simp, .inr ⟨i, rfl, h1, rfl⟩⟩
theorem hpf_set (h : HpL) (i : Nat) (o : Option Obj) (hi : i < h.length) : hpf (h.set i o) = fun j => if j = i then o else hpf h j := by
  funext j
  unfold hpf
  rw [List.getD_eq_getElem?_getD, List.getElem?_set, List.getD_eq_getElem?_getD]
  by_cases hj : i = j
  · subst hj; simp [hi]
  · simp [hj, Ne.symm hj]
theorem hpf_snoc (h : HpL) (o : Option Obj) : hpf (h ++ [o]) = fun j => if j = h.length then o else hpf h j := by
  funext j
  unfold hpf
  rw [List.getD_eq_getElem?_getD, List.getD_eq_getElem?_getD, List.getElem?_append]
  by_cases hj : j < h.length
  · rw [if_pos hj, if_neg (by omega)]
  · by_cases hj2 : j = h.length
    · subst hj2; simp
    · rw [if_neg hj, if_neg hj2]
      rw [List.getElem?_eq_none (l := [o]) (by simp; omega), List.getElem?_eq_none (l := h) (by omega)]
theorem updK_some : ∀ {us : Upd} {h : HpL} {K : HpL → Option R} {r : R}, updK h us K = some r → ∃ h', K h' = some r ∧ hpf h' = updF (hpf h) us ∧ h.length ≤ h'.length ∧ (∀ i ∈ us.map (·.1), i < h'.length)
  | [], h, K, r, hk => ⟨h, hk, rfl, Nat.le_refl _, by simp⟩
  | (i, o) :: us, h, K, r, hk => by
    simp only [updK, forceO_eq] at hk
    cases hb : Nat.blt i h.length with
    | true =>
      rw [hb] at hk
      simp only [cond_true] at hk
      obtain ⟨h1, h2⟩ := setK_some hk
      obtain ⟨h', e1, e2, e3, e4⟩ := updK_some h2
      refine ⟨h', e1, by rw [e2, hpf_set _ _ _ h1]; rfl, by simpa using e3, fun j hj => ?_⟩
      simp only [List.map_cons, List.mem_cons] at hj
      rcases hj with rfl | hj
      · have : (h.set j o).length = h.length := by simp
        omega
      · exact e4 j hj
    | false =>
      rw [hb] at hk
      simp only [cond_false] at hk
      cases he : Nat.beq i h.length with
      | false => rw [he] at hk; cases hk
      | true =>
        rw [he] at hk
        simp only [cond_true, snocK_eq] at hk
        have := Nat.eq_of_beq_eq_true he
        subst this
        obtain ⟨h', e1, e2, e3, e4⟩ := updK_some hk
        refine ⟨h', e1, by rw [e2, hpf_snoc]; rfl, by simp at e3; omega, fun j hj => ?_⟩
        simp only [List.map_cons, List.mem_cons] at hj
        rcases hj with rfl | hj
        · simp at e3; omega
        · exact e4 j hj
theorem guardAll_some : ∀ {cs : List Bool} {x : Option R} {r : R}, guardAll cs x = some r → (∀ c ∈ cs, c = true) ∧ x = some r
  | [], x, r, h => ⟨(by intro c hc; cases hc), h⟩
  | c :: cs, x, r, h => by
    obtain ⟨h1, h2⟩ := cond_some h
    obtain ⟨h3, h4⟩ := guardAll_some h2
    exact ⟨fun c' hc => (List.mem_cons.1 hc).elim (fun e => e ▸ h1) (h3 c'), h4⟩
end

/-! ### the state -/
structure StT (w : World) (ρ : Nat → Option Value) (Fz : Nat → Prop) (σ : Nat → TV) (n : Nat) (a : Act) : Prop where
  len : n = a.tmps.size
  rep : ∀ t, TVRep w ρ Fz (σ t) (a.tmps.getD t undef)
  def_ : a.defers = []
/-- The names that came in are what they were. -/
def Pin (ρ0 ρ : Nat → Option Value) : Prop := ∀ i v, ρ0 i = some v → SameN v (ρ i)
theorem Pin.mono {ρ0 ρ ρ' : Nat → Option Value} {w w' : World} {Fz Fz' : Nat → Prop} (p : Pin ρ0 ρ) (m : Mono w ρ Fz w' ρ' Fz') : Pin ρ0 ρ' := fun i v e => by obtain ⟨v', e', k⟩ := (p i v e).bind (ρ' := ρ) (f := fun _ => True); exact k _ (m.nm i v' e')
def StR (w0 : World) (T Fz0 : Nat → Prop) (ρ0 : Nat → Option Value) (s : Tm) (h : HpL) (a : Act) (w : World) : Prop :=
  ∃ ρ Fz, RelM w0 T Fz0 (fun i => i < h.length) (hpf h) ρ Fz w ∧ StT w ρ Fz (tmf s) s.length a ∧ Pin ρ0 ρ
section
variable {E : Env} {w0 w w' : World} {T Fz0 Fz Fz' U : Nat → Prop} {h hr : Hp} {ρ ρ' ρ0 : Nat → Option Value} {o : Oper} {a : Act} {σ : Nat → TV} {n : Nat}
theorem StT.mono (m : Mono w ρ Fz w' ρ' Fz') (st : StT w ρ Fz σ n a) : StT w' ρ' Fz' σ n a := ⟨st.len, fun t => TVRep_mono m (st.rep t), st.def_⟩
/-- What went by its own name is put back. -/
theorem joinL_ok {R : Type} : ∀ (l : List (Option Obj)) (i : Nat) {s : Tm} {h : HpL} {K : HpL → Option R} {r : R}, joinL l i h K = some r → StR w0 T Fz0 ρ0 s h a w → ∃ h', K h' = some r ∧ StR w0 T Fz0 ρ0 s h' a w
  | [], i, s, h, K, r, hk, st => ⟨h, hk, st⟩
  | o :: l, i, s, h, K, r, hk, st => by
    simp only [joinL] at hk
    obtain ⟨h', hk, hh, hl, hi⟩ := updK_some hk
    refine joinL_ok l (Nat.succ i) hk ?_
    obtain ⟨ρ, Fz, Rm, st, pin⟩ := st
    obtain ⟨ρ', R', m⟩ := joinU_ok Rm i
    exact ⟨ρ', Fz, by rw [hh]; exact R'.weakU fun k hk => by omega, st.mono m, pin.mono m⟩
theorem joinK_ok {R : Type} {s : Tm} {h : HpL} {K : HpL → Option R} {r : R} (hk : joinK h K = some r) (st : StR w0 T Fz0 ρ0 s h a w) : ∃ h', K h' = some r ∧ StR w0 T Fz0 ρ0 s h' a w := by
  unfold joinK at hk
  cases hb : hasDh h with
  | true => rw [hb] at hk; exact joinL_ok h 0 hk st
  | false => rw [hb] at hk; exact ⟨h, hk, st⟩
def putF (σ : Nat → TV) (d : Option Nat) (v : TV) : Nat → TV := match d with
  | some d => fun t => if t = d then v else σ t
  | none => σ
theorem StT.put (st : StT w ρ Fz σ n a) {d : Option Nat} (hd : ∀ i, d = some i → i < n) {v : TV} {u : Value} (hv : TVRep w ρ Fz v u) : StT w ρ Fz (putF σ d v) n (a.put d u) := by
  cases d with
  | none => exact st
  | some d =>
    refine ⟨by rw [st.len]; simp [Act.put], fun t => ?_, by simpa [Act.put] using st.def_⟩
    have hlt : d < a.tmps.size := by rw [← st.len]; exact hd d rfl
    show TVRep w ρ Fz (if t = d then v else σ t) ((a.tmps.setIfInBounds d u).getD t undef)
    by_cases ht : t = d
    · subst ht
      rw [if_pos rfl]
      have : (a.tmps.setIfInBounds t u).getD t undef = u := by simp [Array.getD_eq_getD_getElem?, hlt]
      rw [this]; exact hv
    · rw [if_neg ht]
      have : (a.tmps.setIfInBounds d u).getD t undef = a.tmps.getD t undef := by
        simp [Array.getD_eq_getD_getElem?, Array.getElem?_setIfInBounds, Ne.symm ht]
      rw [this]; exact st.rep t
theorem evl_rep (st : StT w ρ Fz σ n a) (x : Operand) : TVRep w ρ Fz (evl σ x) (a.eval x) := by
  cases x with
  | tmp t => exact st.rep t
  | const v => exact ofConst_rep v
  | global g => trivial
  | func f => exact ⟨#[], (fnV_nil f).symm, trivial⟩
theorem tmf_set (s : Tm) (d : Nat) (v : TV) (hd : d < s.length) : tmf (s.set d v) = putF (tmf s) (some d) v := by
  funext t
  show (s.set d v).getD t .u = if t = d then v else s.getD t .u
  rw [List.getD_eq_getElem?_getD, List.getElem?_set, List.getD_eq_getElem?_getD]
  by_cases ht : d = t
  · subst ht; simp [hd]
  · simp [ht, Ne.symm ht]
/-- What the table of functions tells. -/
def FnsOk (E : Env) : Prop := ∀ (f : Nat) (fn : Func), E.P.funcs[f]? = some fn → (fn.name == "runtime.NumGoroutine") = false
theorem resTys_some (FOK : FnsOk E) {f : Nat} {ts : List Ty} (h : resTys E f = some ts) : ∃ fn : Func, E.P.funcs[f]? = some fn ∧ (fn.name == "runtime.NumGoroutine") = false ∧ fn.body.isSome = true := by
  unfold resTys at h
  cases hf : E.P.funcs[f]? with
  | none => rw [hf] at h; cases h
  | some fn =>
    rw [hf] at h
    exact ⟨fn, rfl, FOK f fn hf, (cond_some h).1⟩
/-- One operation: what Go's machine does with it. -/
theorem aop_wp (EOK : EnvOk E) (FOK : FnsOk E) {call : CallF} (hcall : CallOk E call) (R : RelM w0 T Fz0 U h ρ Fz w) (hsub : ∀ id ob, hr id = some ob → h id = some ob) {next : Nat} {ro : Operand → TV} (hops : ∀ x ∈ o.op.operands, TVRep w ρ Fz (ro x) (a.eval x)) {q : SR} (hq : aop E call ro hr next o = some q)
    (hc : ∀ c ∈ q.conds, c = true) (x : el q.τ) (hx : q.comp = some x) (hnew : ∀ i ∈ (q.upd x).map (·.1), next ≤ i → ¬ U i) {K : Act → World → Prop} {Q : Exit → Act → World → Prop}
    (hK : ∀ v w' ρ' Fz', RelM w0 T Fz0 (fun i => U i ∨ i ∈ (q.upd x).map (·.1)) (updF h (q.upd x)) ρ' Fz' w' → Mono w ρ Fz w' ρ' Fz' → TVRep w' ρ' Fz' (q.val x) v → K (a.put o.dst v) w') : o.wp E.P a w K Q := by
  unfold Oper.wp
  cases hn : isFn o.op with
  | false =>
    obtain ⟨v, w', ρ', Fz', h1, h2, h3, h4⟩ := (aop_ok EOK R hsub hops hq hc x hnew hn).out
    rcases h1 with h1 | ⟨h1, rfl⟩
    · rw [h1]; exact hK v w' ρ' Fz' h2 h3 h4
    · rw [h1]; exact hK undef w' ρ' Fz' h2 h3 h4
  | true =>
    unfold aop at hq
    cases hop : o.op <;> rw [hop] at hq hn hops <;> simp only [isFn] at hn <;> (try (cases hn; done))
    rename_i c
    obtain ⟨callee, args, argTypes⟩ := c
    cases callee <;> simp only at hn <;> (try (cases hn; done))
    rename_i fo
    simp only at hq
    split at hq
    · rename_i g caps hg
      replace hq := cond_some hq; obtain ⟨hglt, hq⟩ := hq
      have hf := hops fo (by simp [Op.operands, Call.operands])
      rw [hg] at hf
      obtain ⟨cv, he, hcv⟩ := (hf : ∃ cv, a.eval fo = fnV g cv ∧ All2 (ACRep0 w ρ Fz) caps cv.toList)
      have hargs0 : All2 (TVRep w ρ Fz) (args.toList.map ro) (args.map a.eval).toList := by
        rw [Array.toList_map]
        have : ∀ l : List Operand, (∀ y ∈ l, TVRep w ρ Fz (ro y) (a.eval y)) → All2 (TVRep w ρ Fz) (l.map ro) (l.map a.eval) := by
          intro l hl
          induction l with
          | nil => trivial
          | cons y l ih => exact ⟨hl y List.mem_cons_self, ih fun z hz => hl z (List.mem_cons_of_mem _ hz)⟩
        exact this args.toList fun y hy => hops y (Array.mem_append.2 (.inr (by simpa using hy)))
      have hcaps : All2 (TVRep w ρ Fz) (caps.map fun c => TV.c c) cv.toList := hcv.map (fun c => TV.c c) fun _ _ h => ACRep_of0 h
      obtain ⟨fi, ca, hfv, hargs⟩ : ∃ fi ca, fnV g cv = .func (.func (fnNum g caps)) fi ca ∧ All2 (TVRep w ρ Fz) (fnArgs g caps (args.toList.map ro)) (fi ++ args.map a.eval ++ ca).toList := by
        have hsz : Nat.beq cv.size 0 = caps.isEmpty := by
          have hl := hcv.len
          cases caps with
          | nil => have h0 : cv.size = 0 := by simpa using hl.symm
                   rw [h0]; rfl
          | cons x xs =>
            have h0 : cv.size = xs.length + 1 := by simpa using hl.symm
            rw [h0]; rfl
        unfold fnV fnNum fnArgs
        rw [hsz, hglt]
        cases (Nat.blt g bmB || caps.isEmpty) with
        | true => exact ⟨#[], cv, rfl, by simpa using hargs0.app hcaps⟩
        | false => exact ⟨cv, #[], rfl, by simpa using hcaps.app hargs0⟩
      rw [hfv] at he
      generalize fnNum g caps = g at *
      generalize hfa : fnArgs _ caps (args.toList.map ro) = fa at *
      have hts : ∃ ts, resTys E g = some ts := by
        unfold callSR refSR at hq
        cases hh : resTys E g with
        | none => rw [hh] at hq; generalize (Nat.beq (E.mode g) 1 && !noO (fa.flatMap ownOf)) = bb at hq; cases bb <;> cases hq
        | some ts => exact ⟨ts, rfl⟩
      obtain ⟨ts, hts⟩ := hts
      obtain ⟨fn, hfn, hname, hbody⟩ := resTys_some FOK hts
      have hbn : fn.body.isNone = false := by cases hb : fn.body <;> simp [hb] at hbody ⊢
      have hexe : (execOp a.eval o).run E.P w = .ok (.enter g (fi ++ args.map a.eval ++ ca)) w := by
        have hname' : ¬ fn.name = "runtime.NumGoroutine" := by simpa using hname
        have hb' : ¬ fn.body = none := by intro e; rw [e] at hbody; cases hbody
        simp [execOp, hop, resolve, he, Deferred.ofValue, invoke, callFunc, hfn, hname', hb']
      rw [hexe]
      cases hg' : (Nat.beq (E.mode g) 1 && !noO (fa.flatMap ownOf)) with
      | false =>
        rw [hg', cond_false] at hq
        refine (call_ok hcall R hsub (fun ids => by
          unfold rsOf
          cases hm : Nat.beq (E.mode g) 1 with
          | false => rfl
          | true =>
            rw [hm, Bool.true_and, Bool.not_eq_false'] at hg'
            have h2 : Nat.beq (E.mode g) 2 = false := by rw [Nat.eq_of_beq_eq_true hm]; rfl
            rw [h2]
            exact oIds_argV (oIds_plainArgs (noO_oIds hg'))) (plainArgs_rep hargs) hq x hx hnew).mono ?_
        rintro e w' ⟨v, ρ', Fz', rfl, h2, h3, h4⟩
        exact hK v w' ρ' Fz' h2 h3 h4
      | true =>
        rw [hg', cond_true] at hq
        rw [Bool.and_eq_true] at hg'
        refine (ref_ok hcall R hsub hg'.1 hargs hq x hx).mono ?_
        rintro e w' ⟨v, ρ', Fz', rfl, h2, h3, h4⟩
        exact hK v w' ρ' Fz' h2 h3 h4
    · cases hq
end
end Go.Sx
