/- Regions in the text's order; the state at a loop's head. Any program. -/
import Derived.Test.YtjgpacfhokpfdaaSx15
set_option linter.unusedVariables false
set_option linter.unusedSimpArgs false
namespace Go.Sx
open Go.RowKit

section
variable {E : Env} {w0 w w' : World} {T Fz0 Fz Fz' U : Nat → Prop} {h hr : Hp} {ρ ρ' ρ0 : Nat → Option Value} {o : Oper} {a : Act} {σ : Nat → TV} {n : Nat} {R : Type}
theorem tmf_len (s : Tm) {d : Option Nat} {v : TV} {s' : Tm} (hs : (d = none ∧ s' = s) ∨ ∃ i, d = some i ∧ i < s.length ∧ s' = s.set i v) : tmf s' = putF (tmf s) d v ∧ (∀ i, d = some i → i < s.length) := by
  rcases hs with ⟨rfl, rfl⟩ | ⟨i, rfl, hi, rfl⟩
  · exact ⟨rfl, (by intro i hi; cases hi)⟩
  · exact ⟨tmf_set s i v hi, fun j hj => by cases hj; exact hi⟩
theorem stepOp_ok (EOK : EnvOk E) (FOK : FnsOk E) {call : CallF} (hcall : CallOk E call) {s : Tm} {h : HpL} {K : Tm → HpL → Option R} {r : R} (hk : stepOp E call s h o K = some r) (st : StR w0 T Fz0 ρ0 s h a w) {nx : Act → World → Prop} {Q : Exit → Act → World → Prop}
    (hn : ∀ s' h' a' w', K s' h' = some r → StR w0 T Fz0 ρ0 s' h' a' w' → nx a' w') : o.wp E.P a w nx Q := by
  obtain ⟨ρ, Fz, Rm, st, pin⟩ := st
  unfold stepOp at hk
  cases hq : aop E call (evl (tmf s)) (hpf h) h.length o with
  | none => rw [hq] at hk; cases hk
  | some q =>
    rw [hq] at hk
    simp only at hk
    obtain ⟨hc, hk⟩ := guardAll_some hk
    cases hx : q.comp with
    | none => rw [hx] at hk; cases hk
    | some x =>
      rw [hx] at hk
      simp only [Option.bind_some] at hk
      obtain ⟨s', hk, hsl, hs⟩ := putK_some hk
      obtain ⟨h', hk, hh, hl, hi⟩ := updK_some hk
      refine aop_wp EOK FOK hcall Rm (fun _ _ h => h) (fun y _ => evl_rep st y) hq hc x hx (fun i _ hle hlt => by omega) ?_
      intro v w' ρ' Fz' R' m hv
      obtain ⟨htm, hd⟩ := tmf_len s hs
      refine hn s' h' _ _ hk ⟨ρ', Fz', by rw [hh]; exact R'.weakU fun i hi' => hi'.elim (fun h1 => by omega) (hi i), ?_, pin.mono m⟩
      rw [htm, hsl]
      exact (st.mono m).put hd hv
theorem guard_true {ops : Array Oper} {j t : Nat} {want : Bool} (hg : o.guard = some (j, want)) (ht : (ops[j]?).bind (·.dst) = some t) {b : Bool} (st : StT w ρ Fz σ n a) (hb : σ t = .c (.bool b)) : Region.wanted o (yielded ops a.tmps) = (b == want) := by
  have hv : a.tmps.getD t undef = .bool b := by have := st.rep t; rw [hb] at this; exact this
  have hg' : a.tmps[t]? = some (.bool b) := by
    rw [Array.getD_eq_getD_getElem?] at hv
    cases he : a.tmps[t]? with
    | none => rw [he] at hv; cases hv
    | some u => rw [he] at hv; simpa using hv
  unfold Region.wanted
  rw [hg]
  simp only [yielded, ht, Option.bind_some, hg']
  cases b <;> cases want <;> rfl
theorem guard_skip {ops : Array Oper} {j t : Nat} {want : Bool} (hg : o.guard = some (j, want)) (ht : (ops[j]?).bind (·.dst) = some t) (st : StT w ρ Fz σ n a) (hb : σ t = .tup []) : Region.wanted o (yielded ops a.tmps) = false := by
  obtain ⟨tv, hv, hl⟩ := (by have := st.rep t; rw [hb] at this; exact this : ∃ tv, a.tmps.getD t undef = .tuple tv ∧ All2 (AVRep w ρ Fz) [] tv.toList)
  unfold Region.wanted
  rw [hg]
  simp only [yielded, ht, Option.bind_some]
  rw [Array.getD_eq_getD_getElem?] at hv
  cases he : a.tmps[t]? with
  | none => rfl
  | some u =>
    rw [he] at hv
    simp only [Option.getD_some] at hv
    subst hv
    rfl
theorem putF_same {t : Nat} {v : TV} (hb : σ t = v) : putF σ (some t) v = σ := by
  funext i
  show (if i = t then v else σ i) = σ i
  by_cases hi : i = t
  · subst hi; rw [if_pos rfl, hb]
  · rw [if_neg hi]
theorem tup_rep : TVRep w ρ Fz (.tup []) undef := ⟨#[], rfl, trivial⟩
theorem runOps_ok (EOK : EnvOk E) (FOK : FnsOk E) {call : CallF} (hcall : CallOk E call) {ops : Array Oper} {Q : Exit → Act → World → Prop} {r : R} {K : Tm → HpL → Option R} (hn : ∀ s' h' a' w', K s' h' = some r → StR w0 T Fz0 ρ0 s' h' a' w' → Q .normal a' w') :
    ∀ (rest : List Oper) (i : Nat) (s : Tm) (h : HpL) (a : Act) (w : World), (∀ k, rest[k]? = ops[i + k]?) → runOps E call ops rest s h K = some r → StR w0 T Fz0 ρ0 s h a w → wpOps E.P ops Q (List.range' i rest.length) a w
  | [], i, s, h, a, w, _, hk, st => hn s h a w hk st
  | o :: rest, i, s, h, a, w, hr, hk, st => by
    have ho : ops[i]? = some o := by have := hr 0; simpa using this.symm
    have hr' : ∀ k, rest[k]? = ops[i + 1 + k]? := fun k => by have := hr (k + 1); rw [List.getElem?_cons_succ] at this; rw [this]; congr 1; omega
    simp only [List.length_cons, List.range'_succ, wpOps, ho]
    simp only [runOps] at hk
    have rec_ := runOps_ok (ops := ops) (Q := Q) EOK FOK hcall hn rest (i + 1)
    cases hg : o.guard with
    | none =>
      rw [hg] at hk
      have hw : Region.wanted o (yielded ops a.tmps) = true := by unfold Region.wanted; rw [hg]
      rw [if_pos hw]
      exact .inl (stepOp_ok EOK FOK hcall hk st fun s' h' a' w' hk' st' => rec_ s' h' a' w' hr' hk' st')
    | some g =>
      obtain ⟨j, want⟩ := g
      rw [hg] at hk
      simp only at hk
      cases ht : (ops[j]?).bind (·.dst) with
      | none => rw [ht] at hk; cases hk
      | some t =>
        rw [ht] at hk
        simp only at hk
        have skip : ∀ {s : Tm} {K' : Tm → Option R}, StR w0 T Fz0 ρ0 s h a w → putK s o.dst (.tup []) K' = some r → (∀ s', K' s' = some r → StR w0 T Fz0 ρ0 s' h (a.put o.dst undef) w → wpOps E.P ops Q (List.range' (i + 1) rest.length) (a.put o.dst undef) w) → wpOps E.P ops Q (List.range' (i + 1) rest.length) (a.put o.dst undef) w := by
          intro s K' st hk hc
          obtain ⟨ρ, Fz, Rm, st, pin⟩ := st
          obtain ⟨s', hk, hsl, hs⟩ := putK_some hk
          obtain ⟨htm, hd⟩ := tmf_len s hs
          exact hc s' hk ⟨ρ, Fz, Rm, by rw [htm, hsl]; exact st.put hd tup_rep, pin⟩
        split at hk
        · rename_i b hb
          have hw : Region.wanted o (yielded ops a.tmps) = (b == want) := by obtain ⟨ρ, Fz, Rm, st, pin⟩ := st; exact guard_true hg ht st hb
          have hset : ∀ {K' : Tm → Option R}, setK s t (.c (.bool b)) K' = some r → ∃ s1, K' s1 = some r ∧ StR w0 T Fz0 ρ0 s1 h a w := by
            intro K' hk
            obtain ⟨h1, h2⟩ := setK_some hk
            obtain ⟨ρ, Fz, Rm, st, pin⟩ := st
            exact ⟨_, h2, ρ, Fz, Rm, by rw [tmf_set s t _ h1, putF_same hb, List.length_set]; exact st, pin⟩
          cases b with
          | true =>
            obtain ⟨s1, hk, st1⟩ := hset hk
            cases want with
            | true =>
              rw [if_pos (by rw [hw]; rfl)]
              exact .inl (stepOp_ok EOK FOK hcall hk st1 fun s' h' a' w' hk' st' => rec_ s' h' a' w' hr' hk' st')
            | false =>
              rw [if_neg (by rw [hw]; decide)]
              exact skip st1 hk fun s' hk' st' => rec_ s' h _ _ hr' hk' st'
          | false =>
            obtain ⟨s1, hk, st1⟩ := hset hk
            cases want with
            | false =>
              rw [if_pos (by rw [hw]; rfl)]
              exact .inl (stepOp_ok EOK FOK hcall hk st1 fun s' h' a' w' hk' st' => rec_ s' h' a' w' hr' hk' st')
            | true =>
              rw [if_neg (by rw [hw]; decide)]
              exact skip st1 hk fun s' hk' st' => rec_ s' h _ _ hr' hk' st'
        · rename_i hb
          have hw : Region.wanted o (yielded ops a.tmps) = false := by obtain ⟨ρ, Fz, Rm, st, pin⟩ := st; exact guard_skip hg ht st hb
          rw [if_neg (by rw [hw]; decide)]
          exact skip st hk fun s' hk' st' => rec_ s' h _ _ hr' hk' st'
        · cases hk

/-! ### the state at a loop's head -/
theorem RelM.rename {ids : List Nat} (Rm : RelM w0 T Fz0 U h ρ Fz w) (hnd : ids.Nodup) : RelM w0 T Fz0 (fun i => i < (ids.map fun id => renO ids (h id)).length) (hpf (ids.map fun id => renO ids (h id))) (rename ρ ids) Fz w := by
  have hρ0 : ∀ j id, ids[j]? = some id → Sx.rename ρ ids j = ρ id := fun j id hj => by simp [Sx.rename, hj]
  have hlive : ∀ j b, Live (hpf (ids.map fun id => renO ids (h id))) (Sx.rename ρ ids) j b → ∃ id, ids[j]? = some id ∧ Live h ρ id b := by
    intro j b ⟨o, v, e1, e2, e3, e4⟩
    obtain ⟨id, o1, hj, ho1, hro⟩ := hpf_map e1
    exact ⟨id, hj, o1, v, ho1, by rw [← renO_wr hro]; exact e2, by rw [← hρ0 j id hj]; exact e3, e4⟩
  refine ⟨Rm.env, Rm.frame, Rm.fz0, Rm.fzlt, Rm.fznew, fun j v hj => ?_, fun j o ho => ?_, fun j b hl => ?_, fun j j' b hl hl' => ?_⟩
  · have hj' : (ids[j]?).bind ρ = some v := hj
    cases hi : ids[j]? with
    | none => rw [hi] at hj'; cases hj'
    | some id =>
      rw [hi] at hj'
      refine ⟨?_, (Rm.dom id v hj').2⟩
      show j < (ids.map _).length
      rw [List.length_map]
      exact (List.getElem?_eq_some_iff.1 hi).1
  · obtain ⟨id, o1, hj, ho1, hro⟩ := hpf_map ho
    obtain ⟨v, hv, hrep⟩ := Rm.objs id o1 ho1
    refine ⟨v, by rw [hρ0 j id hj]; exact hv, ?_⟩
    cases o1 with
    | box ty cs =>
      cases hro
      obtain ⟨g, cv, rfl, hg, hc⟩ := hrep
      exact ⟨g, cv, rfl, hg, hc.map (renC ids) fun _ _ h => ren_rep (Fz' := Fz) h (fun _ h => h)⟩
    | own e t xs => cases hro; exact hrep
    | fro e t xs => cases hro; exact hrep
    | mp T n es => cases hro; exact hrep
    | mq T n es => cases hro; exact hrep
    | dp T n es => cases hro; exact hrep
    | dh T n es a b c => cases hro
  · obtain ⟨id, hj, hl0⟩ := hlive j b hl
    exact Rm.mt id b hl0
  · obtain ⟨id, hj, hl0⟩ := hlive j b hl
    obtain ⟨id', hj', hl0'⟩ := hlive j' b hl'
    have := Rm.dis id id' b hl0 hl0'
    subst this
    exact nodup_idx hnd hj hj'
theorem keepF_rep {keep ids : List Nat} : ∀ (s : Tm) (i : Nat) (vs : List Value), All2 (TVRep w ρ Fz) s vs → All2 (TVRep w (rename ρ ids) Fz) (keepF keep ids s i) vs
  | [], i, [], _ => trivial
  | v :: r, i, u :: vs, h => by
    refine ⟨?_, keepF_rep r (Nat.succ i) vs h.2⟩
    cases keep.elem i with
    | true => exact renV_rep h.1 (fun _ h => h)
    | false => trivial
  | [], _, _ :: _, h => h.elim
  | _ :: _, _, [], h => h.elim
theorem keepF_len {keep ids : List Nat} : ∀ (s : Tm) (i : Nat), (keepF keep ids s i).length = s.length
  | [], _ => rfl
  | _ :: r, i => by simp [keepF, keepF_len r (Nat.succ i)]
theorem StT_list {s : Tm} (st : StT w ρ Fz (tmf s) s.length a) : All2 (TVRep w ρ Fz) s a.tmps.toList := by
  have key : ∀ (s : Tm) (vs : List Value), s.length = vs.length → (∀ t, t < s.length → TVRep w ρ Fz (s.getD t .u) (vs.getD t undef)) → All2 (TVRep w ρ Fz) s vs := by
    intro s
    induction s with
    | nil => intro vs hl _; cases vs with
      | nil => trivial
      | cons => cases hl
    | cons v s ih =>
      intro vs hl hr
      cases vs with
      | nil => cases hl
      | cons u vs =>
        refine ⟨by simpa using hr 0 (by simp), ih vs (by simpa using hl) fun t ht => by simpa using hr (t + 1) (by simpa using ht)⟩
  refine key s a.tmps.toList (by simpa using st.len) fun t _ => ?_
  have := st.rep t
  rw [Array.getD_eq_getD_getElem?] at this
  rw [List.getD_eq_getElem?_getD (l := a.tmps.toList), Array.getElem?_toList]
  exact this
theorem list_StT {s : Tm} (hl : All2 (TVRep w ρ Fz) s a.tmps.toList) (hd : a.defers = []) : StT w ρ Fz (tmf s) s.length a := by
  refine ⟨by have := hl.len; simpa using this, fun t => ?_, hd⟩
  unfold tmf
  rw [List.getD_eq_getElem?_getD, Array.getD_eq_getD_getElem?]
  cases ht : s[t]? with
  | none => trivial
  | some v =>
    obtain ⟨u, hu, hr⟩ := hl.get ht
    have : a.tmps[t]? = some u := by simpa using hu
    rw [this]
    exact hr
/-- An empty row of one's own in the place of nil. -/
theorem RelM.nil (Rm : RelM w0 T Fz0 U h ρ Fz w) {id1 : Nat} (hn : ¬ U id1) (e : Nat) (t : Ty) : RelM w0 T Fz0 (fun i => U i ∨ i = id1) (fun j => if j = id1 then some (.own e t []) else h j) (fun i => if i = id1 then some (.slice none 0 0) else ρ i) Fz w ∧ Mono w ρ Fz w (fun i => if i = id1 then some (.slice none 0 0) else ρ i) Fz := by
  have hnone : ρ id1 = none := by
    cases hρ : ρ id1 with
    | none => rfl
    | some v => exact absurd (Rm.dom id1 v hρ).1 hn
  exact Rm.put (w' := w) (row := none) ⟨rfl, rfl, rfl, Nat.le_refl _, fun _ _ _ => rfl⟩ id1 (.own e t []) (.slice none 0 0) rfl rfl (by intro b hb; cases hb) (.inl hnone) (by intro b hb; cases hb) (fun i hi => .inl hi) (.inr rfl) (by simp) (fun id o hne ho => by simpa [hne] using ho)
    ⟨[], World.ownsRow_nil .., Rows_nil⟩
/-- The same, owned with what comes into it. -/
theorem RelM.nilDp (Rm : RelM w0 T Fz0 U h ρ Fz w) {id1 : Nat} (hn : ¬ U id1) (e : Nat) (t : Ty) : RelM w0 T Fz0 (fun i => U i ∨ i = id1) (fun j => if j = id1 then some (.dp e t []) else h j) (fun i => if i = id1 then some (ghost (.slice none 0 0) []) else ρ i) Fz w ∧ Mono w ρ Fz w (fun i => if i = id1 then some (ghost (.slice none 0 0) []) else ρ i) Fz := by
  have hnone : ρ id1 = none := by
    cases hρ : ρ id1 with
    | none => rfl
    | some v => exact absurd (Rm.dom id1 v hρ).1 hn
  exact Rm.put (w' := w) (row := none) ⟨rfl, rfl, rfl, Nat.le_refl _, fun _ _ _ => rfl⟩ id1 (.dp e t []) (ghost (.slice none 0 0) []) rfl rfl (by intro b hb; cases hb) (.inl hnone) (by intro b hb; cases hb) (fun i hi => .inl hi) (.inr rfl) (by simp) (fun id o hne ho => by simpa [hne] using ho)
    ⟨_, _, rfl, DO_nil, List.nodup_nil⟩
/-- What an empty row's name stands for. -/
def nilW : Option Obj → Value
  | some (.dp _ _ _) => ghost (.slice none 0 0) []
  | _ => .slice none 0 0
def NilO (o : Option Obj) : Prop := ∃ e t, o = some (.own e t []) ∨ o = some (.dp e t [])
theorem nilW_gval (o : Option Obj) : gval (nilW o) = .slice none 0 0 := by
  unfold nilW
  split <;> rfl
theorem nilW_blk (o : Option Obj) (b : Nat) : ¬ BlkOf (nilW o) b := by
  unfold nilW
  split
  · intro h; cases h
  · intro h; cases h
theorem nilW_one (o : Option Obj) : (nilW o).oneCell' = true := by
  unfold nilW
  split <;> rfl
theorem nilO_cases (e : Nat) (t : Ty) : (∃ e' t', nilO e t = some (.own e' t' [])) ∨ ∃ e' t', nilO e t = some (.dp e' t' []) := by
  cases t <;> first | exact .inl ⟨_, _, rfl⟩ | exact .inr ⟨_, _, rfl⟩
theorem denilT_ok : ∀ {keep : List (Nat × Option (Nat × Ty))} {s : Tm} {h : HpL} {K : Tm → HpL → Option R} {r : R}, denilT keep s h K = some r → StR w0 T Fz0 ρ0 s h a w → ∃ s' h', K s' h' = some r ∧ StR w0 T Fz0 ρ0 s' h' a w
  | [], s, h, K, r, hk, st => ⟨s, h, hk, st⟩
  | (d, none) :: keep, s, h, K, r, hk, st => denilT_ok (keep := keep) hk st
  | (d, some (e, t)) :: keep, s, h, K, r, hk, st => by
    simp only [denilT] at hk
    split at hk
    · rename_i hd
      rw [forceN_eq] at hk
      obtain ⟨hlt, hk⟩ := setK_some hk
      rw [snocK_eq] at hk
      refine denilT_ok (keep := keep) hk ?_
      obtain ⟨ρ, Fz, Rm, st, pin⟩ := st
      obtain ⟨vv, hvv, R', m⟩ : ∃ vv, gval vv = .slice none 0 0 ∧ RelM w0 T Fz0 (fun i => i < h.length ∨ i = h.length) (fun j => if j = h.length then nilO e t else hpf h j) (fun i => if i = h.length then some vv else ρ i) Fz w ∧ Mono w ρ Fz w (fun i => if i = h.length then some vv else ρ i) Fz := by
        rcases nilO_cases e t with ⟨e', t', hn⟩ | ⟨e', t', hn⟩ <;> rw [hn]
        · exact ⟨_, rfl, Rm.nil (id1 := h.length) (Nat.lt_irrefl _) e' t'⟩
        · exact ⟨_, rfl, Rm.nilDp (id1 := h.length) (Nat.lt_irrefl _) e' t'⟩
      refine ⟨(fun i => if i = h.length then some vv else ρ i), Fz, ?_, ?_, pin.mono m⟩
      · rw [hpf_snoc]
        exact R'.weakU fun i hi => by rw [List.length_append, List.length_singleton]; omega
      · have hv : a.tmps.getD d undef = .slice none 0 0 := by have := st.rep d; rw [hd] at this; exact this
        refine ⟨by rw [List.length_set]; exact st.len, fun t' => ?_, st.def_⟩
        rw [tmf_set s d _ hlt]
        show TVRep w _ Fz (if t' = d then _ else tmf s t') _
        by_cases he : t' = d
        · subst he
          rw [if_pos rfl, hv]
          exact ⟨_, if_pos rfl, hvv, rfl⟩
        · rw [if_neg he]; exact TVRep_mono m (st.rep t')
    · exact denilT_ok (keep := keep) hk st
/-- The cells of a variable, nil rows made one's own. -/
theorem denilC_ok {N : Nat} (hm : ∀ id v, ρ id = some v → SameN v (ρ' id)) : ∀ (ds : List Ty) (cs : List AC) (n : Nat) (vs : List Value), All2 (ACRep w ρ Fz) cs vs → (∀ k, n ≤ k → k < n + (denilC ds cs n).2.length → ∃ v, ρ' k = some v ∧ gval v = .slice none 0 0) →
    All2 (ACRep w ρ' Fz) (denilC ds cs n).1 vs ∧ (∀ o ∈ (denilC ds cs n).2, NilO o) := by
  have m : Mono w ρ Fz w ρ' Fz := ⟨hm, fun _ h => h, fun _ _ => rfl⟩
  intro ds
  induction ds with
  | nil => intro cs n vs h _; exact ⟨h.imp fun _ _ => ACRep_mono m, (by intro o ho; cases ho)⟩
  | cons d ds ih =>
    intro cs n vs h hρ
    cases cs with
    | nil =>
      have : denilC (d :: ds) [] n = ([], []) := by cases d <;> rfl
      rw [this]
      cases vs with
      | nil => exact ⟨trivial, (by intro o ho; cases ho)⟩
      | cons => exact h.elim
    | cons c cs =>
      cases vs with
      | nil => exact h.elim
      | cons v vs =>
        by_cases hc : ∃ e t, d = .sl e t ∧ c = .nilsl
        · obtain ⟨e, t, rfl, rfl⟩ := hc
          have heq : denilC (.sl e t :: ds) (.nilsl :: cs) n = (.o n :: (denilC ds cs (Nat.succ n)).1, some (.own e t []) :: (denilC ds cs (Nat.succ n)).2) := rfl
          rw [heq] at hρ ⊢
          simp only [List.length_cons] at hρ
          obtain ⟨h1, h2⟩ := ih cs (Nat.succ n) vs h.2 (fun k hk1 hk2 => hρ k (by omega) (by omega))
          have hv : v = .slice none 0 0 := h.1
          subst hv
          obtain ⟨v, g1, g2⟩ := hρ n (Nat.le_refl _) (by omega)
          exact ⟨⟨⟨v, g1, g2, rfl⟩, h1⟩, fun o ho => (List.mem_cons.1 ho).elim (fun e' => ⟨e, t, .inl e'⟩) (h2 o)⟩
        by_cases hc2 : ∃ e t, d = .dw e t ∧ c = .nilsl
        · obtain ⟨e, t, rfl, rfl⟩ := hc2
          have heq : denilC (.dw e t :: ds) (.nilsl :: cs) n = (.o n :: (denilC ds cs (Nat.succ n)).1, some (.dp e t []) :: (denilC ds cs (Nat.succ n)).2) := rfl
          rw [heq] at hρ ⊢
          simp only [List.length_cons] at hρ
          obtain ⟨h1, h2⟩ := ih cs (Nat.succ n) vs h.2 (fun k hk1 hk2 => hρ k (by omega) (by omega))
          have hv : v = .slice none 0 0 := h.1
          subst hv
          obtain ⟨v, g1, g2⟩ := hρ n (Nat.le_refl _) (by omega)
          exact ⟨⟨⟨v, g1, g2, rfl⟩, h1⟩, fun o ho => (List.mem_cons.1 ho).elim (fun e' => ⟨e, t, .inr e'⟩) (h2 o)⟩
        · have heq : denilC (d :: ds) (c :: cs) n = (c :: (denilC ds cs n).1, (denilC ds cs n).2) := by
            cases d <;> try rfl
            · cases c <;> first | rfl | exact absurd ⟨_, _, rfl, rfl⟩ hc
            · cases c <;> first | rfl | exact absurd ⟨_, _, rfl, rfl⟩ hc2
          rw [heq] at hρ ⊢
          obtain ⟨h1, h2⟩ := ih cs n vs h.2 hρ
          exact ⟨⟨ACRep_mono m h.1, h1⟩, h2⟩
theorem denilH_spec (tys : List (Nat × Ty)) : ∀ (h : HpL) (n : Nat), (denilH tys h n).1.length = h.length ∧ (∀ o ∈ (denilH tys h n).2, NilO o) ∧
    (∀ i : Nat, (∃ ty cs t n', h[i]? = some (some (.box ty cs)) ∧ n ≤ n' ∧ n' + (denilC (leafs t) cs n').2.length ≤ n + (denilH tys h n).2.length ∧ (denilH tys h n).1[i]? = some (some (.box ty (denilC (leafs t) cs n').1))) ∨ (denilH tys h n).1[i]? = h[i]?)
  | [], n => ⟨rfl, (by intro o ho; cases ho), fun i => .inr rfl⟩
  | none :: r, n => by
    obtain ⟨h1, h2, h3⟩ := denilH_spec tys r n
    have heq : denilH tys (none :: r) n = (none :: (denilH tys r n).1, (denilH tys r n).2) := rfl
    rw [heq]
    refine ⟨by simp [h1], h2, fun i => ?_⟩
    cases i with
    | zero => exact .inr rfl
    | succ i => simpa using h3 i
  | some (.own e t xs) :: r, n => by
    obtain ⟨h1, h2, h3⟩ := denilH_spec tys r n
    have heq : denilH tys (some (.own e t xs) :: r) n = (some (.own e t xs) :: (denilH tys r n).1, (denilH tys r n).2) := rfl
    rw [heq]
    refine ⟨by simp [h1], h2, fun i => ?_⟩
    cases i with
    | zero => exact .inr rfl
    | succ i => simpa using h3 i
  | some (.fro e t xs) :: r, n => by
    obtain ⟨h1, h2, h3⟩ := denilH_spec tys r n
    have heq : denilH tys (some (.fro e t xs) :: r) n = (some (.fro e t xs) :: (denilH tys r n).1, (denilH tys r n).2) := rfl
    rw [heq]
    refine ⟨by simp [h1], h2, fun i => ?_⟩
    cases i with
    | zero => exact .inr rfl
    | succ i => simpa using h3 i
  | some (.mp e t xs) :: r, n => by
    obtain ⟨h1, h2, h3⟩ := denilH_spec tys r n
    have heq : denilH tys (some (.mp e t xs) :: r) n = (some (.mp e t xs) :: (denilH tys r n).1, (denilH tys r n).2) := rfl
    rw [heq]
    refine ⟨by simp [h1], h2, fun i => ?_⟩
    cases i with
    | zero => exact .inr rfl
    | succ i => simpa using h3 i
  | some (.mq e t xs) :: r, n => by
    obtain ⟨h1, h2, h3⟩ := denilH_spec tys r n
    have heq : denilH tys (some (.mq e t xs) :: r) n = (some (.mq e t xs) :: (denilH tys r n).1, (denilH tys r n).2) := rfl
    rw [heq]
    refine ⟨by simp [h1], h2, fun i => ?_⟩
    cases i with
    | zero => exact .inr rfl
    | succ i => simpa using h3 i
  | some (.dp e t xs) :: r, n => by
    obtain ⟨h1, h2, h3⟩ := denilH_spec tys r n
    have heq : denilH tys (some (.dp e t xs) :: r) n = (some (.dp e t xs) :: (denilH tys r n).1, (denilH tys r n).2) := rfl
    rw [heq]
    refine ⟨by simp [h1], h2, fun i => ?_⟩
    cases i with
    | zero => exact .inr rfl
    | succ i => simpa using h3 i
  | some (.dh e t xs a b c) :: r, n => by
    obtain ⟨h1, h2, h3⟩ := denilH_spec tys r n
    have heq : denilH tys (some (.dh e t xs a b c) :: r) n = (some (.dh e t xs a b c) :: (denilH tys r n).1, (denilH tys r n).2) := rfl
    rw [heq]
    refine ⟨by simp [h1], h2, fun i => ?_⟩
    cases i with
    | zero => exact .inr rfl
    | succ i => simpa using h3 i
  | some (.box ty cs) :: r, n => by
    cases ha : assoc tys ty with
    | none =>
      obtain ⟨h1, h2, h3⟩ := denilH_spec tys r n
      have heq : denilH tys (some (.box ty cs) :: r) n = (some (.box ty cs) :: (denilH tys r n).1, (denilH tys r n).2) := by simp only [denilH, ha]
      rw [heq]
      refine ⟨by simp [h1], h2, fun i => ?_⟩
      cases i with
      | zero => exact .inr rfl
      | succ i => simpa using h3 i
    | some t =>
      have heq : denilH tys (some (.box ty cs) :: r) n = (some (.box ty (denilC (leafs t) cs n).1) :: (denilH tys r (n + (denilC (leafs t) cs n).2.length)).1, (denilC (leafs t) cs n).2 ++ (denilH tys r (n + (denilC (leafs t) cs n).2.length)).2) := by simp only [denilH, ha]
      obtain ⟨h1, h2, h3⟩ := denilH_spec tys r (n + (denilC (leafs t) cs n).2.length)
      rw [heq]
      refine ⟨by simp [h1], fun o ho => ?_, fun i => ?_⟩
      · rcases List.mem_append.1 ho with ho | ho
        · have key : ∀ (ds : List Ty) (cs : List AC) (n : Nat), ∀ o ∈ (denilC ds cs n).2, NilO o := by
            intro ds
            induction ds with
            | nil => intro cs n o ho; cases ho
            | cons d ds ih =>
              intro cs n o ho
              cases cs with
              | nil => have : denilC (d :: ds) [] n = ([], []) := by cases d <;> rfl
                       rw [this] at ho; cases ho
              | cons c cs =>
                by_cases hc : ∃ e t, d = .sl e t ∧ c = .nilsl
                · obtain ⟨e, t, rfl, rfl⟩ := hc
                  rcases List.mem_cons.1 ho with ho | ho
                  · exact ⟨e, t, .inl ho⟩
                  · exact ih cs _ o ho
                by_cases hc2 : ∃ e t, d = .dw e t ∧ c = .nilsl
                · obtain ⟨e, t, rfl, rfl⟩ := hc2
                  rcases List.mem_cons.1 ho with ho | ho
                  · exact ⟨e, t, .inr ho⟩
                  · exact ih cs _ o ho
                · have heq : denilC (d :: ds) (c :: cs) n = (c :: (denilC ds cs n).1, (denilC ds cs n).2) := by
                    cases d <;> try rfl
                    · cases c <;> first | rfl | exact absurd ⟨_, _, rfl, rfl⟩ hc
                    · cases c <;> first | rfl | exact absurd ⟨_, _, rfl, rfl⟩ hc2
                  rw [heq] at ho
                  exact ih cs n o ho
          exact key _ _ _ o ho
        · exact h2 o ho
      · cases i with
        | zero => exact .inl ⟨ty, cs, t, n, rfl, Nat.le_refl _, by simp only [List.length_append]; omega, rfl⟩
        | succ i =>
          rcases h3 i with ⟨ty', cs', t', n', e1, e2, e3, e4⟩ | e
          · exact .inl ⟨ty', cs', t', n', by simpa using e1, by omega, by simp only [List.length_append]; omega, by simpa using e4⟩
          · exact .inr (by simpa using e)
theorem denilH_ok (tys : List (Nat × Ty)) {s : Tm} {h : HpL} (st : StR w0 T Fz0 ρ0 s h a w) : StR w0 T Fz0 ρ0 s ((denilH tys h h.length).1 ++ (denilH tys h h.length).2) a w := by
  obtain ⟨ρ, Fz, Rm, st, pin⟩ := st
  obtain ⟨hl, hn, hi⟩ := denilH_spec tys h h.length
  generalize hA : (denilH tys h h.length).1 = A at *
  generalize hB : (denilH tys h h.length).2 = B at *
  let ρ' : Nat → Option Value := fun i => if h.length ≤ i ∧ i < h.length + B.length then some (nilW (B.getD (i - h.length) none)) else ρ i
  have hold : ∀ i, i < h.length → ρ' i = ρ i := fun i hi => by
    show (if h.length ≤ i ∧ i < h.length + B.length then _ else ρ i) = _
    rw [if_neg (by omega)]
  have hnew : ∀ i, h.length ≤ i → i < h.length + B.length → ρ' i = some (nilW (B.getD (i - h.length) none)) := fun i h1 h2 => by
    show (if h.length ≤ i ∧ i < h.length + B.length then _ else ρ i) = _
    rw [if_pos ⟨h1, h2⟩]
  have m : Mono w ρ Fz w ρ' Fz := ⟨fun id v e => by rw [hold id (Rm.dom id v e).1]; exact .inl e, fun _ h => h, fun _ _ => rfl⟩
  have hget : ∀ i o, hpf (A ++ B) i = some o → (i < h.length ∧ A[i]? = some (some o)) ∨ (h.length ≤ i ∧ i < h.length + B.length ∧ B.getD (i - h.length) none = some o ∧ NilO (some o)) := by
    intro i o ho
    unfold hpf at ho
    rw [List.getD_eq_getElem?_getD, List.getElem?_append] at ho
    split at ho
    · rename_i hlt
      rw [hl] at hlt
      refine .inl ⟨hlt, ?_⟩
      cases hh : A[i]? with
      | none => rw [hh] at ho; cases ho
      | some x => rw [hh] at ho; simp only [Option.getD_some] at ho; rw [ho]
    · rename_i hge
      rw [hl] at hge ho
      cases hh : B[i - h.length]? with
      | none => rw [hh] at ho; cases ho
      | some x =>
        rw [hh] at ho
        simp only [Option.getD_some] at ho
        subst ho
        have hlt := (List.getElem?_eq_some_iff.1 hh).1
        exact .inr ⟨by omega, by omega, by rw [List.getD_eq_getElem?_getD, hh]; rfl, hn _ (List.mem_of_getElem? hh)⟩
  have hbox : ∀ i o, A[i]? = some (some o) → (hpf h i = some o) ∨ (∃ ty cs cs' , hpf h i = some (.box ty cs) ∧ o = .box ty cs' ∧ ∀ cv : Array Value, All2 (ACRep w ρ Fz) cs cv.toList → All2 (ACRep w ρ' Fz) cs' cv.toList) := by
    intro i o ho
    rcases hi i with ⟨ty, cs, t, n', e1, e2, e3, e4⟩ | e
    · rw [ho] at e4
      simp only [Option.some.injEq] at e4
      subst e4
      refine .inr ⟨ty, cs, _, ?_, rfl, fun cv hc => (denilC_ok (N := 0) m.nm (leafs t) cs n' cv.toList hc (fun k h1 h2 => ⟨_, hnew k (by omega) (by omega), nilW_gval _⟩)).1⟩
      unfold hpf
      rw [List.getD_eq_getElem?_getD, e1]; rfl
    · rw [ho] at e
      refine .inl ?_
      unfold hpf
      rw [List.getD_eq_getElem?_getD, ← e]; rfl
  have hlive : ∀ i b, Live (hpf (A ++ B)) ρ' i b → Live (hpf h) ρ i b := by
    intro i b ⟨o, v, e1, e2, e3, e4⟩
    rcases hget i o e1 with ⟨hlt, hA'⟩ | ⟨h1, h2, _, _⟩
    · rw [hold i hlt] at e3
      rcases hbox i o hA' with hb | ⟨ty, cs, cs', hb, rfl, _⟩
      · exact ⟨o, v, hb, e2, e3, e4⟩
      · exact ⟨_, v, hb, rfl, e3, e4⟩
    · rw [hnew i h1 h2] at e3
      cases e3; exact absurd e4 (nilW_blk _ _)
  refine ⟨ρ', Fz, ⟨Rm.env, Rm.frame, Rm.fz0, Rm.fzlt, Rm.fznew, fun i v hv => ?_, fun i o ho => ?_, fun i b hl => Rm.mt i b (hlive i b hl), fun i j b hl hl' => Rm.dis i j b (hlive i b hl) (hlive j b hl')⟩, st.mono m, pin.mono m⟩
  · have hv' : (if h.length ≤ i ∧ i < h.length + B.length then some (nilW (B.getD (i - h.length) none)) else ρ i) = some v := hv
    split at hv'
    · cases hv'
      refine ⟨?_, nilW_one _⟩
      show i < (A ++ B).length
      rw [List.length_append, hl]; omega
    · refine ⟨?_, (Rm.dom i v hv').2⟩
      have := (Rm.dom i v hv').1
      show i < (A ++ B).length
      rw [List.length_append, hl]; omega
  · rcases hget i o ho with ⟨hlt, hA'⟩ | ⟨h1, h2, h3, h4⟩
    · rcases hbox i o hA' with hb | ⟨ty, cs, cs', hb, rfl, hc⟩
      · obtain ⟨v, hv, hrep⟩ := Rm.objs i o hb
        exact ⟨v, by rw [hold i hlt]; exact hv, ObjRep_mono m (fun _ _ _ => rfl) hrep⟩
      · obtain ⟨v, hv, g, cv, rfl, hg, hcv⟩ := Rm.objs i _ hb
        exact ⟨_, by rw [hold i hlt]; exact hv, g, cv, rfl, hg, hc cv hcv⟩
    · refine ⟨_, hnew i h1 h2, ?_⟩
      rw [h3]
      obtain ⟨e, t, h4 | h4⟩ := h4
      · cases h4; exact ⟨[], World.ownsRow_nil .., Rows_nil⟩
      · cases h4; exact ⟨_, _, rfl, DO_nil, List.nodup_nil⟩
theorem addNew_pre : ∀ (l acc : List Nat) (j : Nat) (x : Nat), acc[j]? = some x → (addNew acc l)[j]? = some x
  | [], acc, j, x, h => h
  | i :: r, acc, j, x, h => by
    show (addNew (cond (acc.elem i) acc (acc ++ [i])) r)[j]? = some x
    refine addNew_pre r _ j x ?_
    cases acc.elem i with
    | true => exact h
    | false => rw [cond_false, List.getElem?_append_left (List.getElem?_eq_some_iff.1 h).1]; exact h
theorem foldAdd_pre {α : Type} (g : α → List Nat) : ∀ (l : List α) (acc : List Nat) (j : Nat) (x : Nat), acc[j]? = some x → (l.foldl (fun a i => addNew a (g i)) acc)[j]? = some x
  | [], acc, j, x, h => h
  | i :: r, acc, j, x, h => foldAdd_pre g r _ j x (addNew_pre _ _ j x h)
theorem closeIds_pre (h : Hp) : ∀ (n : Nat) (acc : List Nat) (j : Nat) (x : Nat), acc[j]? = some x → (closeIds h n acc)[j]? = some x
  | 0, acc, j, x, h => h
  | n + 1, acc, j, x, hj => closeIds_pre h n _ j x (foldAdd_pre (fun i => idsO (h i)) acc acc j x hj)
theorem filter_pre {p : Nat → Bool} : ∀ (m k : Nat) (l : List Nat), (∀ j, j < m → l[j]? = some (k + j)) → (∀ j, j < m → p (k + j) = true) → ∀ j, j < m → (l.filter p)[j]? = some (k + j)
  | 0, _, _, _, _, j, hj => by omega
  | m + 1, k, [], h, _, _, _ => by have := h 0 (by omega); cases this
  | m + 1, k, x :: r, h, hp, j, hj => by
    have h0 := h 0 (by omega)
    simp only [List.getElem?_cons_zero, Option.some.injEq, Nat.add_zero] at h0
    subst h0
    rw [List.filter_cons_of_pos (by have := hp 0 (by omega); rwa [Nat.add_zero] at this)]
    cases j with
    | zero => rfl
    | succ j =>
      rw [List.getElem?_cons_succ]
      have := filter_pre m (x + 1) r (fun j hj => by have := h (j + 1) (by omega); rw [List.getElem?_cons_succ] at this; rw [this]; congr 1; omega) (fun j hj => by have := hp (j + 1) (by omega); rwa [show x + 1 + j = x + (j + 1) from by omega]) j (by omega)
      rw [this]; congr 1; omega
theorem StR_frz {s : Tm} {h h1 : HpL} {cs : List AC} (st : StR w0 T Fz0 ρ0 s h a w) (hh : hpf h1 = updF (hpf h) (frz (hpf h) cs)) (hl : h.length ≤ h1.length) : StR w0 T Fz0 ρ0 s h1 a w := by
  obtain ⟨ρ, Fz, Rm, st, pin⟩ := st
  obtain ⟨Fz', R', m, _⟩ := frz_ok Rm (hr := hpf h) (fun _ _ e => e) cs
  exact ⟨ρ, Fz', by rw [hh]; exact R'.weakU fun i hi => Nat.lt_of_lt_of_le hi hl, st.mono m, pin⟩
theorem canonK_ok {tys : List (Nat × Ty)} {m : Nat} {keep : List (Nat × Option (Nat × Ty))} {s : Tm} {h : HpL} {K : Tm → HpL → Option R} {r : R} (hm : ∀ i v, ρ0 i = some v → i < m) (hk : canonK tys m keep s h K = some r) (st : StR w0 T Fz0 ρ0 s h a w) : ∃ s' h', K s' h' = some r ∧ StR w0 T Fz0 ρ0 s' h' a w := by
  unfold canonK at hk
  obtain ⟨s1, h1, hk, st⟩ := denilT_ok hk st
  rw [forceH_eq] at hk
  have st := denilH_ok tys st
  obtain ⟨h2, hk, hh2, hl2, _⟩ := updK_some hk
  replace st := StR_frz st hh2 hl2
  simp only at hk
  obtain ⟨hnd, hk⟩ := cond_some hk
  rw [forceVs_eq, forceH_eq] at hk
  obtain ⟨ρ, Fz, Rm, st, pin⟩ := st
  refine ⟨_, _, hk, _, Fz, Rm.rename (nodupB_nodup hnd), ?_, fun i v e => ?_⟩
  · exact list_StT (keepF_rep _ 0 _ (StT_list st)) st.def_
  · have hi := hm i v e
    have key : ∀ n j, j < n → (List.range n)[j]? = some (0 + j) := fun n j hj => by simp [hj]
    show SameN v ((_[i]? : Option Nat).bind ρ)
    rw [filter_pre m 0 _ (fun j hj => ?_) (fun j hj => ?_) i hi, Nat.zero_add]
    · exact pin i v e
    · exact closeIds_pre _ _ _ j _ (foldAdd_pre (fun t : Nat × Option (Nat × Ty) => idsV (tmf s1 t.1)) _ _ j _ (key m j hj))
    · rw [Nat.zero_add, show Nat.blt j m = true from by simpa [Nat.blt_eq] using hj, Bool.true_or]
end
end Go.Sx
