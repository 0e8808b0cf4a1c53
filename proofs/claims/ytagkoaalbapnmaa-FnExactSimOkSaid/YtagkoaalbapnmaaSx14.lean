/- A call of a function that answers as the plain machine says. Any program. -/
import Derived.Test.YtagkoaalbapnmaaSx13
set_option linter.unusedVariables false
set_option linter.unusedSimpArgs false
namespace Go.Sx
open Go.RowKit

theorem updF_cases (u : Upd) : ∀ (h : Hp) (id : Nat), (id ∉ u.map (·.1) ∧ updF h u id = h id) ∨ ∃ p ∈ u, p.1 = id ∧ updF h u id = p.2 := by
  induction u with
  | nil => intro h id; exact .inl ⟨by simp, rfl⟩
  | cons p r ih =>
    intro h id
    rcases ih (fun j => if j = p.1 then p.2 else h j) id with ⟨hn, he⟩ | ⟨q, hq, h1, h2⟩
    · by_cases hp : id = p.1
      · exact .inr ⟨p, List.mem_cons_self, hp.symm, by show updF _ r id = _; rw [he, if_pos hp]⟩
      · refine .inl ⟨?_, by show updF _ r id = _; rw [he, if_neg hp]⟩
        simp only [List.map_cons, List.mem_cons, not_or]
        exact ⟨hp, hn⟩
    · exact .inr ⟨q, List.mem_cons_of_mem _ hq, h1, h2⟩
theorem nodupB_nodup : ∀ {l : List Nat}, nodupB l = true → l.Nodup
  | [], _ => List.nodup_nil
  | i :: r, h => by
    simp only [nodupB, Bool.and_eq_true, Bool.not_eq_true'] at h
    refine List.nodup_cons.2 ⟨fun hm => ?_, nodupB_nodup h.2⟩
    have := h.1
    rw [List.elem_eq_contains] at this
    simp [hm] at this
theorem apartC_not {ids : List Nat} : ∀ {cs : List AC}, apartC ids cs = true → ∀ id ∈ oIds cs, id ∉ ids
  | [], _, id, hi => by cases hi
  | c :: r, h, id, hi => by
    cases c <;> simp only [apartC, oIds] at h hi <;> try exact apartC_not h id hi
    simp only [Bool.and_eq_true, Bool.not_eq_true'] at h
    rcases List.mem_cons.1 hi with hi | hi
    · subst hi
      intro hm
      have := h.1
      rw [List.elem_eq_contains] at this
      simp [hm] at this
    · exact apartC_not h.2 id hi
section
variable {E : Env} {hr : Hp}
theorem gone_mem : ∀ (ids : List Nat) (p : Nat × Option Obj), p ∈ gone hr ids → p.1 ∈ ids ∧ p.2 = none ∧ ∃ e t xs, hr p.1 = some (.own e t xs)
  | [], p, hp => by cases hp
  | id :: r, p, hp => by
    have ih := gone_mem r p
    simp only [gone] at hp
    split at hp
    · rename_i e t xs ho
      rcases List.mem_cons.1 hp with rfl | hp
      · exact ⟨List.mem_cons_self, rfl, e, t, xs, ho⟩
      · exact ⟨List.mem_cons_of_mem _ (ih hp).1, (ih hp).2⟩
    · exact ⟨List.mem_cons_of_mem _ (ih hp).1, (ih hp).2⟩
theorem gone_has : ∀ (ids : List Nat) (id e : Nat) (t : Ty) (xs : List (el t)), id ∈ ids → hr id = some (.own e t xs) → id ∈ (gone hr ids).map (·.1)
  | i :: r, id, e, t, xs, hi, ho => by
    simp only [gone]
    rcases List.mem_cons.1 hi with rfl | hi
    · rw [ho]; simp
    · have ih := gone_has r id e t xs hi ho
      split
      · simp only [List.map_cons, List.mem_cons]; exact .inr ih
      · exact ih
theorem cellTy_sz {d : Option Ty} {c : AC} {t : Ty} (h : cellTy hr d c = some t) : sz t = 1 := by
  cases c with
  | o id =>
    simp only [cellTy] at h
    split at h <;> cases h <;> rfl
  | nilsl =>
    simp only [cellTy] at h
    split at h <;> cases h <;> rfl
  | fn f caps => cases caps <;> simp [cellTy] at h <;> subst h <;> rfl
  | int k n => cases h; rfl
  | bool b => cases h; rfl
  | str s => cases h; rfl
  | sl e t xs => cases h; rfl
  | _ => cases h
theorem cellTys_len : ∀ {cs : List AC} {ds : List Ty} {ts : List Ty}, cellTys hr ds cs = some ts → sz (tupTy ts) = cs.length
  | [], ds, ts, h => by simp only [cellTys, Option.some.injEq] at h; subst h; rfl
  | c :: cs, ds, ts, h => by
    simp only [cellTys] at h
    cases hc : cellTy hr ds.head? c with
    | none => rw [hc] at h; cases h
    | some t =>
      cases hr' : cellTys hr ds.tail cs with
      | none => rw [hc, hr'] at h; cases h
      | some l =>
        rw [hc, hr'] at h
        cases h
        simp only [tupTy, sz, cellTy_sz hc, cellTys_len hr', List.length_cons]
        omega
/-- The variables that come back. -/
theorem boxPut_spec {w' : World} {ρ ρ0 ρ1 : Nat → Option Value} {Fz1 : Nat → Prop} {ids : List Nat} : ∀ (l : List Nat) (bs : List (Nat × Nat × Ty)) (i : Nat) (bv : List Value) (acs : List AC), boxTys E hr l = some bs → BoxOut w' ρ0 i (l.map fun id => renO ids (hr id)) bv →
    (∀ j id, l[j]? = some id → ρ0 (i + j) = ρ id) → All2 (ACRep w' ρ1 Fz1) acs bv →
    (∀ p ∈ boxPut bs acs, ∃ id ty cs0 cs' g cv, p = (id, some (.box ty cs')) ∧ id ∈ l ∧ hr id = some (.box ty cs0) ∧ ρ id = some (.pointer (some ⟨g, 0, none⟩)) ∧ w'.heap[g]? = some (.cells cv ty (0, 0)) ∧ All2 (ACRep w' ρ1 Fz1) cs' cv.toList) ∧
    (∀ id ∈ l, ∀ ty cs0, hr id = some (.box ty cs0) → id ∈ (boxPut bs acs).map (·.1))
  | [], bs, i, bv, acs, hb, ho, hρ, ha => by
    simp only [boxTys, Option.some.injEq] at hb
    subst hb
    exact ⟨(by intro p hp; cases hp), (by intro id hi; cases hi)⟩
  | id :: r, bs, i, bv, acs, hb, ho, hρ, ha => by
    simp only [boxTys] at hb
    have hρ' : ∀ j id', r[j]? = some id' → ρ0 (i + 1 + j) = ρ id' := fun j id' hj => by
      have := hρ (j + 1) id' (by simpa using hj)
      rwa [← Nat.add_assoc, Nat.add_right_comm] at this
    cases hid : hr id with
    | none => rw [hid] at hb; cases hb
    | some ob =>
      rw [hid] at hb
      cases hbr : boxTys E hr r with
      | none => rw [hbr] at hb; cases ob <;> cases hb
      | some l' =>
        rw [hbr] at hb
        simp only [List.map_cons, hid] at ho
        cases ob with
        | box ty cs =>
          simp only at hb
          split at hb
          · rename_i ts hts
            cases hb
            obtain ⟨g, cv, rest, h1, h2, h3, rfl, h4⟩ := ho
            have hsz : sz (tupTy ts) = cv.toList.length := by rw [cellTys_len hts]; have h9 : cv.toList.length = cv.size := Array.length_toList; rw [h9, h3]; simp
            have htk := ha.take (sz (tupTy ts))
            have hdr := ha.drop (sz (tupTy ts))
            rw [hsz, List.take_left] at htk
            rw [hsz, List.drop_left] at hdr
            obtain ⟨ih1, ih2⟩ := boxPut_spec r l' (i + 1) rest _ hbr h4 hρ' hdr
            refine ⟨fun p hp => ?_, fun id' hi ty' cs0 ho' => ?_⟩
            · simp only [boxPut] at hp
              rcases List.mem_cons.1 hp with rfl | hp
              · refine ⟨id, ty, cs, _, g, cv, rfl, List.mem_cons_self, hid, ?_, h2, ?_⟩
                · rw [← hρ 0 id rfl]; exact h1
                · rw [hsz]; exact htk
              · rw [hsz] at hp
                obtain ⟨id', ty', cs0, cs', g', cv', e1, e2, e3⟩ := ih1 p hp
                exact ⟨id', ty', cs0, cs', g', cv', e1, List.mem_cons_of_mem _ e2, e3⟩
            · simp only [boxPut, List.map_cons, List.mem_cons]
              rcases List.mem_cons.1 hi with rfl | hi
              · exact .inl rfl
              · rw [hsz]; exact .inr (ih2 id' hi ty' cs0 ho')
          · cases hb
        | own e t xs =>
          cases hb
          obtain ⟨ih1, ih2⟩ := boxPut_spec r bs (i + 1) bv acs hbr ho hρ' ha
          refine ⟨fun p hp => ?_, fun id' hi ty' cs0 ho' => ?_⟩
          · obtain ⟨id', ty', cs0, cs', g', cv', e1, e2, e3⟩ := ih1 p hp
            exact ⟨id', ty', cs0, cs', g', cv', e1, List.mem_cons_of_mem _ e2, e3⟩
          · rcases List.mem_cons.1 hi with rfl | hi
            · rw [hid] at ho'; cases ho'
            · exact ih2 id' hi ty' cs0 ho'
        | fro e t xs =>
          cases hb
          obtain ⟨ih1, ih2⟩ := boxPut_spec r bs (i + 1) bv acs hbr ho hρ' ha
          refine ⟨fun p hp => ?_, fun id' hi ty' cs0 ho' => ?_⟩
          · obtain ⟨id', ty', cs0, cs', g', cv', e1, e2, e3⟩ := ih1 p hp
            exact ⟨id', ty', cs0, cs', g', cv', e1, List.mem_cons_of_mem _ e2, e3⟩
          · rcases List.mem_cons.1 hi with rfl | hi
            · rw [hid] at ho'; cases ho'
            · exact ih2 id' hi ty' cs0 ho'
end
section
variable {E : Env} {w0 w w' : World} {T Fz0 Fz Fz' U : Nat → Prop} {h hr : Hp} {ρ : Nat → Option Value}
theorem argC_rep (Rr : RelM w0 T Fz0 U hr ρ Fz w) {c : AC} {v : Value} (hc : ACRep w ρ Fz c v) (hf : ∀ b, Fz b → Fz' b) (ho : ∀ id, c = .o id → ∀ b, LiveO hr ρ id b → Fz' b) : ACRep w ρ Fz' (argC hr c) v := by
  have m : Mono w ρ Fz w ρ Fz' := ⟨fun _ _ e => e, hf, fun _ _ => rfl⟩
  cases c with
  | o id =>
    have hid : ρ id = some v := hc
    simp only [argC, slc]
    cases hob : hr id with
    | none => trivial
    | some ob =>
      obtain ⟨v', hv', hrep⟩ := Rr.objs id ob hob
      rw [hid] at hv'; cases hv'
      cases ob with
      | box ty cs => trivial
      | own e t xs =>
        obtain ⟨vs, hown, hrows⟩ := hrep
        exact own_KI hown hrows hf fun b hb => ho id rfl b ⟨e, t, xs, v, hob, hid, hb⟩
      | fro e t xs => exact KI_mono hf (fun _ _ => rfl) hrep
  | _ => exact ACRep_mono m hc
theorem argV_rep (Rr : RelM w0 T Fz0 U hr ρ Fz w) {x : TV} {v : Value} (hx : TVRep w ρ Fz x v) (hf : ∀ b, Fz b → Fz' b) (ho : ∀ id ∈ oIds (ownOf x), ∀ b, LiveO hr ρ id b → Fz' b) : TVRep w ρ Fz' (argV hr x) v := by
  have m : Mono w ρ Fz w ρ Fz' := ⟨fun _ _ e => e, hf, fun _ _ => rfl⟩
  cases x with
  | tup vs => exact TVRep_mono m hx
  | v av =>
    cases av with
    | one c => exact argC_rep Rr hx hf fun id hc b hl => ho id (by subst hc; simp [ownOf, AV.cells, oIds]) b hl
    | agg cs =>
      obtain ⟨cv, rfl, hcs⟩ := hx
      refine ⟨cv, rfl, ?_⟩
      have key : ∀ (cs : List AC) (vs : List Value), All2 (ACRep w ρ Fz) cs vs → (∀ id ∈ oIds cs, ∀ b, LiveO hr ρ id b → Fz' b) → All2 (ACRep w ρ Fz') (cs.map (argC hr)) vs := by
        intro cs
        induction cs with
        | nil => intro vs h _; cases vs with
          | nil => trivial
          | cons => exact h.elim
        | cons c cs ih =>
          intro vs h hs
          cases vs with
          | nil => exact h.elim
          | cons v vs => exact ⟨argC_rep Rr h.1 hf fun id hc b hl => hs id (by subst hc; simp [oIds]) b hl, ih vs h.2 fun id hi => hs id (oIds_cons c cs id hi)⟩
      exact key cs cv.toList hcs ho
theorem nodup_idx {l : List Nat} (hn : l.Nodup) {i j id : Nat} (hi : l[i]? = some id) (hj : l[j]? = some id) : i = j := by
  obtain ⟨h1, e1⟩ := List.getElem?_eq_some_iff.1 hi
  obtain ⟨h2, e2⟩ := List.getElem?_eq_some_iff.1 hj
  have hp := List.pairwise_iff_getElem.1 hn
  rcases Nat.lt_trichotomy i j with h | h | h
  · exact absurd (e1.trans e2.symm) (hp i j h1 h2 h)
  · exact h
  · exact absurd (e2.trans e1.symm) (hp j i h2 h1 h)
theorem blks_idx : ∀ {vals : List Value} {i j : Nat} {u v : Value} {b : Nat}, (vals.flatMap fun v => (blkV v).toList).Nodup → vals[i]? = some u → vals[j]? = some v → blkV u = some b → blkV v = some b → i = j
  | [], i, j, u, v, b, _, hi, _, _, _ => by simp at hi
  | x :: vals, 0, 0, u, v, b, _, _, _, _, _ => rfl
  | x :: vals, 0, j + 1, u, v, b, hn, hi, hj, hu, hv => by
    simp only [List.flatMap_cons, List.nodup_append] at hn
    simp only [List.getElem?_cons_zero, Option.some.injEq] at hi
    subst hi
    have h1 : b ∈ (blkV x).toList := by simp [hu]
    have h2 : b ∈ vals.flatMap fun v => (blkV v).toList := List.mem_flatMap.2 ⟨v, List.mem_of_getElem? (by simpa using hj), by simp [hv]⟩
    exact absurd rfl (hn.2.2 b h1 b h2)
  | x :: vals, i + 1, 0, u, v, b, hn, hi, hj, hu, hv => by
    simp only [List.flatMap_cons, List.nodup_append] at hn
    simp only [List.getElem?_cons_zero, Option.some.injEq] at hj
    subst hj
    have h1 : b ∈ (blkV x).toList := by simp [hv]
    have h2 : b ∈ vals.flatMap fun v => (blkV v).toList := List.mem_flatMap.2 ⟨u, List.mem_of_getElem? (by simpa using hi), by simp [hu]⟩
    exact absurd rfl (hn.2.2 b h1 b h2)
  | x :: vals, i + 1, j + 1, u, v, b, hn, hi, hj, hu, hv => by
    simp only [List.flatMap_cons, List.nodup_append] at hn
    rw [blks_idx (vals := vals) (i := i) (j := j) hn.2.1 (by simpa using hi) (by simpa using hj) hu hv]
theorem hpf_map {ids : List Nat} {j : Nat} {o : Obj} (ho : hpf (ids.map fun id => renO ids (hr id)) j = some o) : ∃ id o1, ids[j]? = some id ∧ hr id = some o1 ∧ renO ids (some o1) = some o := by
  unfold hpf at ho
  rw [List.getD_eq_getElem?_getD, List.getElem?_map] at ho
  cases hj : ids[j]? with
  | none => rw [hj] at ho; cases ho
  | some id =>
    rw [hj] at ho
    simp only [Option.map_some, Option.getD_some] at ho
    cases h1 : hr id with
    | none => rw [h1] at ho; cases ho
    | some o1 => rw [h1] at ho; exact ⟨id, o1, rfl, h1, ho⟩
theorem renO_wr {ids : List Nat} {o1 o : Obj} (h : renO ids (some o1) = some o) : o.wr = o1.wr := by
  cases o1 <;> cases h <;> rfl

theorem call_ok {call : CallF} (hcall : CallOk E call) (R : RelM w0 T Fz0 U h ρ Fz w) (hsub : ∀ id ob, hr id = some ob → h id = some ob) {next f : Nat} {args : List TV} {cargs : Array Value} (ha : All2 (TVRep w ρ Fz) args cargs.toList)
    {q : SR} (hq : callSR E call hr next f args = some q) (x : el q.τ) (hx : q.comp = some x) (hnew : ∀ i ∈ (q.upd x).map (·.1), next ≤ i → ¬ U i) :
    Calls E.P f cargs w fun e w' => ∃ v ρ' Fz', e = .returned v ∧ RelM w0 T Fz0 (fun i => U i ∨ i ∈ (q.upd x).map (·.1)) (updF h (q.upd x)) ρ' Fz' w' ∧ Mono w ρ Fz w' ρ' Fz' ∧ TVRep w' ρ' Fz' (q.val x) v := by
  unfold callSR at hq
  cases hts : resTys E f with
  | none => rw [hts] at hq; cases hq
  | some ts =>
  rw [hts] at hq
  simp only at hq
  generalize hids : closeIds hr 2 ((args.flatMap ptrV).foldl (fun a i => addNew a [i]) []) = ids at hq
  generalize hown : args.flatMap ownOf = own at hq
  cases hbs : boxTys E hr ids with
  | none => rw [hbs] at hq; cases hq
  | some bs =>
  rw [hbs] at hq
  simp only at hq
  replace hq := cond_some hq
  obtain ⟨hcnd, hq⟩ := hq
  cases hq
  simp only [Bool.and_eq_true] at hcnd
  obtain ⟨hap, hnd⟩ := hcnd
  have hnd := nodupB_nodup hnd
  have hap := apartC_not hap
  have Rr : RelM w0 T Fz0 U hr ρ Fz w := R.less hsub
  simp only at hx hnew ⊢
  -- what the callee has
  let FzA : Nat → Prop := fun b => Fz b ∨ ∃ id ∈ oIds own, LiveO hr ρ id b
  have hfA : ∀ b, Fz b → FzA b := fun b hb => .inl hb
  have mA : Mono w ρ Fz w ρ FzA := ⟨fun _ _ e => e, hfA, fun _ _ => rfl⟩
  let h0 : HpL := ids.map fun id => renO ids (hr id)
  let ρ0 := rename ρ ids
  have hρ0 : ∀ j id, ids[j]? = some id → ρ0 j = ρ id := fun j id hj => by simp [ρ0, rename, hj]
  have hlive : ∀ j b, Live (hpf h0) ρ0 j b → ∃ id, ids[j]? = some id ∧ Live hr ρ id b := by
    intro j b ⟨o, v, e1, e2, e3, e4⟩
    obtain ⟨id, o1, hj, ho1, hro⟩ := hpf_map e1
    exact ⟨id, hj, o1, v, ho1, by rw [← renO_wr hro]; exact e2, by rw [← hρ0 j id hj]; exact e3, e4⟩
  have hlive' : ∀ id b, id ∈ ids → Live hr ρ id b → Handed h0 ρ0 b := by
    intro id b hi ⟨o, v, e1, e2, e3, e4⟩
    obtain ⟨j, hj⟩ := List.mem_iff_getElem?.1 hi
    cases hro : renO ids (some o) with
    | none => cases o <;> cases hro
    | some o' =>
      refine ⟨j, o', v, ?_, by rw [renO_wr hro]; exact e2, by rw [hρ0 j id hj]; exact e3, e4⟩
      show h0.getD j none = _
      rw [List.getD_eq_getElem?_getD, List.getElem?_map, hj]
      simp [e1, hro]
  have hLh : ∀ id b, Live hr ρ id b → Live h ρ id b := fun id b ⟨o, v, e1, e2⟩ => ⟨o, v, hsub id o e1, e2⟩
  have hnA : ∀ id b, id ∈ ids → Live hr ρ id b → ¬ FzA b := by
    intro id b hi hl hf
    rcases hf with hf | ⟨id', hi', hl'⟩
    · exact (Rr.mt id b hl).1 hf
    · have := Rr.dis id id' b hl hl'.live
      subst this
      exact hap id hi' hi
  have hAlt : ∀ b, FzA b → b < w.heap.size := by
    intro b hb
    rcases hb with hb | ⟨id', hi', hl'⟩
    · exact R.fzlt b hb
    · exact (Rr.mt id' b hl'.live).2.1
  have Rc : RelM w (Handed h0 ρ0) FzA (fun i => i < h0.length) (hpf h0) ρ0 FzA w := by
    refine ⟨Below.refl _ _, fun _ _ _ => rfl, fun _ h => h, hAlt, fun _ h => .inl h, fun j v hj => ?_, fun j o ho => ?_, fun j b hl => ?_, fun j j' b hl hl' => ?_⟩
    · have hj' : (ids[j]?).bind ρ = some v := hj
      cases hi : ids[j]? with
      | none => rw [hi] at hj'; cases hj'
      | some id =>
        rw [hi] at hj'
        refine ⟨?_, (R.dom id v hj').2⟩
        show j < (ids.map _).length
        rw [List.length_map]
        exact (List.getElem?_eq_some_iff.1 hi).1
    · obtain ⟨id, o1, hj, ho1, hro⟩ := hpf_map ho
      obtain ⟨v, hv, hrep⟩ := Rr.objs id o1 ho1
      refine ⟨v, by rw [hρ0 j id hj]; exact hv, ?_⟩
      cases o1 with
      | box ty cs =>
        cases hro
        obtain ⟨g, cv, rfl, hg, hc⟩ := hrep
        exact ⟨g, cv, rfl, hg, hc.map (renC ids) fun _ _ h => ren_rep h hfA⟩
      | own e t xs =>
        cases hro
        obtain ⟨vs, ho, hrows⟩ := hrep
        exact ⟨vs, ho, Rows_mono hfA (fun _ _ => rfl) hrows⟩
      | fro e t xs =>
        cases hro
        exact KI_mono hfA (fun _ _ => rfl) hrep
    · obtain ⟨id, hj, hl0⟩ := hlive j b hl
      exact ⟨hnA id b (List.mem_of_getElem? hj) hl0, (Rr.mt id b hl0).2.1, .inl ⟨j, hl⟩⟩
    · obtain ⟨id, hj, hl0⟩ := hlive j b hl
      obtain ⟨id', hj', hl0'⟩ := hlive j' b hl'
      have := Rr.dis id id' b hl0 hl0'
      subst this
      exact nodup_idx hnd hj hj'
  have hargs : All2 (TVRep w ρ0 FzA) (args.map fun v => renV ids (argV hr v)) cargs.toList := by
    have key : ∀ (l : List TV) (vs : List Value), All2 (TVRep w ρ Fz) l vs → (∀ id ∈ oIds (l.flatMap ownOf), id ∈ oIds own) → All2 (TVRep w ρ0 FzA) (l.map fun v => renV ids (argV hr v)) vs := by
      intro l
      induction l with
      | nil => intro vs h _; cases vs with
        | nil => trivial
        | cons => exact h.elim
      | cons x l ih =>
        intro vs hl hs
        cases vs with
        | nil => exact hl.elim
        | cons v vs =>
          simp only [List.flatMap_cons, oIds_app] at hs
          refine ⟨renV_rep (argV_rep (Fz' := FzA) Rr hl.1 hfA fun id hi b hl' => .inr ⟨id, hs id (List.mem_append_left _ hi), hl'⟩) (fun _ h => h), ih vs hl.2 fun id hi => hs id (List.mem_append_right _ hi)⟩
    exact key args cargs.toList ha (by rw [hown]; exact fun _ h => h)
  refine (hcall f _ _ _ x hx ts hts w ρ0 FzA cargs Rc hargs).mono ?_
  rintro e w' ⟨v, rfl, ⟨cs, bv, FzB, bl, hpk, hbo, hko, hbn, hbl, hfB, hfB2, hbx⟩, henv, hframe⟩
  -- what has come back
  generalize htt : resT (joinTy ts) bs = tt at *
  let Fz1 : Nat → Prop := fun b => if imm tt = true then FzB b else Fz b
  have hfz1 : ∀ b, Fz b → Fz1 b := by
    intro b hb
    show if imm tt = true then FzB b else Fz b
    split
    · exact hfB b (hfA b hb)
    · exact hb
  have hFB1 : ∀ b, Fz1 b → FzB b := by
    intro b hb
    have hb : if imm tt = true then FzB b else Fz b := hb
    split at hb
    · exact hb
    · exact hfB b (hfA b hb)
  have hko1 : KO w' Fz1 tt x (cs ++ bv) bl := by
    cases hi : imm tt with
    | true =>
      have : Fz1 = FzB := by funext b; simp [Fz1, hi]
      rw [this]; exact hko
    | false => exact KO_noimm hi hko
  obtain ⟨vals, hvn, hvb, hv1, hvr, hvm, hvo⟩ := cellsOwn_spec (w := w') (Fz := Fz1) tt next x (cs ++ bv) bl hko1
  let ρ1 : Nat → Option Value := fun i => if next ≤ i ∧ i < next + vals.length then vals[i - next]? else ρ i
  have hnewU : ∀ i, next ≤ i → i < next + vals.length → ¬ U i := by
    intro i h1 h2
    refine hnew i ?_ h1
    simp only [List.map_append, List.mem_append]
    refine .inl (.inr ?_)
    rw [hvm, List.mem_range'_1]
    exact ⟨h1, h2⟩
  have hρ1 : ∀ i, U i → ρ1 i = ρ i := by
    intro i hi
    show (if next ≤ i ∧ i < next + vals.length then vals[i - next]? else ρ i) = _
    rw [if_neg (fun hh => hnewU i hh.1 hh.2 hi)]
  have hρn : ∀ i v, vals[i]? = some v → ρ1 (next + i) = some v := by
    intro i v hi
    have := (List.getElem?_eq_some_iff.1 hi).1
    show (if next ≤ next + i ∧ next + i < next + vals.length then vals[next + i - next]? else ρ (next + i)) = _
    rw [if_pos ⟨by omega, by omega⟩, Nat.add_sub_cancel_left]
    exact hi
  have hTnot : ∀ b, FzA b → ¬ Handed h0 ρ0 b := by
    rintro b hb ⟨j, hl⟩
    obtain ⟨id, hj, hl0⟩ := hlive j b hl
    exact hnA id b (List.mem_of_getElem? hj) hl0 hb
  have hwA : ∀ b, FzA b → w'.heap[b]? = w.heap[b]? := fun b hb => hframe b (hAlt b hb) (hTnot b hb)
  have m1 : Mono w ρ Fz w' ρ1 Fz1 := ⟨fun id v e => by rw [hρ1 id (R.dom id v e).1]; exact e, hfz1, fun b hb => hwA b (hfA b hb)⟩
  have hacs : All2 (ACRep w' ρ1 Fz1) (cellsOwn tt next x).1 (cs ++ bv) := hvr ρ1 hρn
  obtain ⟨vs, hpl, hpv⟩ := hpk
  have hcsl : cs.length = sz (joinTy ts) := packL_len hpl
  have hacs1 := hacs.take (sz (joinTy ts))
  have hacs2 := hacs.drop (sz (joinTy ts))
  rw [← hcsl, List.take_left] at hacs1
  rw [← hcsl, List.drop_left] at hacs2
  rw [hcsl] at hacs1 hacs2
  obtain ⟨hbp1, hbp2⟩ := boxPut_spec (ρ := ρ) (ρ1 := ρ1) (Fz1 := Fz1) (ids := ids) ids bs 0 bv _ hbs hbo (fun j id hj => by rw [Nat.zero_add]; exact hρ0 j id hj) hacs2
  -- each name's object behind the call
  generalize hupd : (cond (imm tt) (frz hr own) [] ++ gone hr ids ++ (cellsOwn tt next x).2.1 ++ boxPut bs ((cellsOwn tt next x).1.drop (sz (joinTy ts)))) = upd at *
  have hUold : ∀ id ob, hr id = some ob → U id := fun id ob ho => by
    obtain ⟨v, hv, _⟩ := Rr.objs id ob ho
    exact (R.dom id v hv).1
  have hcase : ∀ id o1, updF h upd id = some o1 →
      (∃ i e t xs v vs, id = next + i ∧ o1 = .own e t xs ∧ vals[i]? = some v ∧ w'.ownsRow 0 e (sz t) v xs.length vs ∧ Rows w' Fz1 t xs vs) ∨
      (∃ ty cs0 cs' g cv, o1 = .box ty cs' ∧ id ∈ ids ∧ hr id = some (.box ty cs0) ∧ ρ id = some (.pointer (some ⟨g, 0, none⟩)) ∧ w'.heap[g]? = some (.cells cv ty (0, 0)) ∧ All2 (ACRep w' ρ1 Fz1) cs' cv.toList) ∨
      (∃ e t xs, imm tt = true ∧ id ∈ oIds own ∧ hr id = some (.own e t xs) ∧ o1 = .fro e t xs) ∨
      (h id = some o1 ∧ (∀ b, Live hr ρ id b → id ∉ ids) ∧ (imm tt = true → ∀ b, LiveO hr ρ id b → id ∉ oIds own)) := by
    intro id o1 ho
    rcases updF_cases upd h id with ⟨hn, he⟩ | ⟨p, hp, hp1, hp2⟩
    · rw [he] at ho
      rw [← hupd] at hn
      simp only [List.map_append, List.mem_append, not_or] at hn
      obtain ⟨⟨⟨hnA', hnG⟩, _⟩, hnB⟩ := hn
      refine .inr (.inr (.inr ⟨ho, fun b ⟨ob, v, e1, e2, _⟩ hi => ?_, fun him b ⟨e, t, xs, v, e1, _⟩ hi => ?_⟩))
      · cases ob with
        | box ty cs0 => exact hnB (hbp2 id hi ty cs0 e1)
        | own e t xs => exact hnG (gone_has ids id e t xs hi e1)
        | fro e t xs => simp [Obj.wr] at e2
      · rw [him] at hnA'
        exact hnA' (frz_has hr own id e t xs hi e1)
    · rw [ho] at hp2
      rw [← hupd] at hp
      simp only [List.mem_append] at hp
      rcases hp with ((hp | hp) | hp) | hp
      · cases him : imm tt with
        | false => rw [him] at hp; cases hp
        | true =>
          rw [him] at hp
          obtain ⟨h1, e, t, xs, h2, h3⟩ := frz_mem hr own p hp
          rw [hp1] at h1 h2
          rw [h3] at hp2
          cases hp2
          exact .inr (.inr (.inl ⟨e, t, xs, rfl, h1, h2, rfl⟩))
      · obtain ⟨_, h2, _⟩ := gone_mem ids p hp
        rw [h2] at hp2; cases hp2
      · obtain ⟨i, e, t, xs, v, vs, rfl, hi, hown', hrows⟩ := hvo p hp
        cases hp2
        exact .inl ⟨i, e, t, xs, v, vs, hp1.symm, rfl, hi, hown', hrows⟩
      · obtain ⟨id', ty, cs0, cs', g, cv, rfl, h1, h2, h3, h4, h5⟩ := hbp1 p hp
        cases hp1
        cases hp2
        exact .inr (.inl ⟨ty, cs0, cs', g, cv, rfl, h1, h2, h3, h4, h5⟩)
  -- what may be written behind the call
  have hliveN : ∀ id b, Live (updF h upd) ρ1 id b → (∃ i v, id = next + i ∧ vals[i]? = some v ∧ blkV v = some b) ∨
      (Live h ρ id b ∧ ¬ Fz1 b ∧ b < w'.heap.size ∧ (b ∉ bl)) := by
    intro id b ⟨o1, v, e1, e2, e3, e4⟩
    rcases hcase id o1 e1 with ⟨i, e, t, xs, v', vs, rfl, rfl, hi, _⟩ | ⟨ty, cs0, cs', g, cv, rfl, hi, ho, hρ, hg, _⟩ | ⟨e, t, xs, _, _, _, rfl⟩ | ⟨ho, hn1, hn2⟩
    · have := hρn i v' hi
      rw [this] at e3; cases e3
      exact .inl ⟨i, v, rfl, hi, e4⟩
    · have hU := hUold id _ ho
      rw [hρ1 id hU, hρ] at e3
      cases e3
      cases e4
      have hl : Live hr ρ id g := ⟨_, _, ho, rfl, hρ, rfl⟩
      obtain ⟨j, hj⟩ := List.mem_iff_getElem?.1 hi
      have := hbx j ty (cs0.map (renC ids)) g (by
        show (ids.map _).getD j none = _
        rw [List.getD_eq_getElem?_getD, List.getElem?_map, hj]
        simp [ho, renO]) (by rw [hρ0 j id hj]; exact hρ)
      exact .inr ⟨hLh id g hl, fun hf => this.2 (hFB1 g hf), (Array.getElem?_eq_some_iff.1 hg).1, this.1⟩
    · simp [Obj.wr] at e2
    · obtain ⟨v', hv', _⟩ := R.objs id o1 ho
      have hU := (R.dom id v' hv').1
      rw [hρ1 id hU] at e3
      have hl : Live h ρ id b := ⟨o1, v, ho, e2, e3, e4⟩
      have hm := R.mt id b hl
      have hTn : ¬ Handed h0 ρ0 b := by
        rintro ⟨j, hlj⟩
        obtain ⟨id', hj, hl0⟩ := hlive j b hlj
        have := R.dis id id' b hl (hLh id' b hl0)
        subst this
        exact hn1 b hl0 (List.mem_of_getElem? hj)
      refine .inr ⟨hl, fun hf => ?_, Nat.lt_of_lt_of_le hm.2.1 henv.size, fun hb => ?_⟩
      · have hf' : if imm tt = true then FzB b else Fz b := hf
        split at hf'
        · rename_i him
          rcases (hfB2 b hf').2 with h' | h' | h'
          · rcases h' with h' | ⟨id', hi', hl'⟩
            · exact hm.1 h'
            · have := R.dis id id' b hl (hLh id' b hl'.live)
              subst this
              exact hn2 him b hl' hi'
          · exact hTn h'
          · have := hm.2.1; omega
        · exact hm.1 hf'
      · rcases (hbl b hb).2.2 with h' | h'
        · exact hTn h'
        · have := hm.2.1; omega
  refine ⟨v, ρ1, Fz1, rfl, ⟨R.env.trans henv, fun b hb hT => ?_, fun b hb => hfz1 b (R.fz0 b hb), fun b hb => (hfB2 b (hFB1 b hb)).1, fun b hb => ?_, fun i v' hv' => ?_, fun id o1 ho => ?_, fun id b hl => ?_, fun id id' b hl hl' => ?_⟩, m1, packs_rep ⟨vs, hpl, hpv⟩ hacs1⟩
  · have hlt : b < w.heap.size := Nat.lt_of_lt_of_le hb R.env.size
    rw [hframe b hlt (fun ⟨j, hl⟩ => by
      obtain ⟨id, hj, hl0⟩ := hlive j b hl
      rcases (R.mt id b (hLh id b hl0)).2.2 with h' | h'
      · exact hT h'
      · omega)]
    exact R.frame b hb hT
  · have hb' : if imm tt = true then FzB b else Fz b := hb
    split at hb'
    · rcases (hfB2 b hb').2 with h' | ⟨j, hl⟩ | h'
      · rcases h' with h' | ⟨id', hi', hl'⟩
        · exact R.fznew b h'
        · exact .inr (R.mt id' b (hLh id' b hl'.live)).2.2
      · obtain ⟨id, hj, hl0⟩ := hlive j b hl
        exact .inr (R.mt id b (hLh id b hl0)).2.2
      · exact .inr (.inr (by have := R.env.size; omega))
    · exact R.fznew b hb'
  · have hv' : (if next ≤ i ∧ i < next + vals.length then vals[i - next]? else ρ i) = some v' := hv'
    split at hv'
    · rename_i hi
      refine ⟨.inr ?_, hv1 v' (List.mem_of_getElem? hv')⟩
      rw [← hupd]
      simp only [List.map_append, List.mem_append]
      refine .inl (.inr ?_)
      rw [hvm, List.mem_range'_1]
      exact hi
    · exact ⟨.inl (R.dom i v' hv').1, (R.dom i v' hv').2⟩
  · rcases hcase id o1 ho with ⟨i, e, t, xs, v', vs, rfl, rfl, hi, hown', hrows⟩ | ⟨ty, cs0, cs', g, cv, rfl, hi, ho', hρ, hg, hc⟩ | ⟨e, t, xs, him, hi, ho', rfl⟩ | ⟨ho', hn1, hn2⟩
    · exact ⟨v', hρn i v' hi, vs, hown', hrows⟩
    · exact ⟨_, by rw [hρ1 id (hUold id _ ho')]; exact hρ, g, cv, rfl, hg, hc⟩
    · obtain ⟨v', hv', vs, hown', hrows⟩ := Rr.objs id _ ho'
      refine ⟨v', by rw [hρ1 id (hUold id _ ho')]; exact hv', ?_⟩
      have hk : KI w FzA (.sl e t) xs [v'] := own_KI hown' hrows hfA fun b hb => .inr ⟨id, hi, e, t, xs, v', ho', hv', hb⟩
      have hF : ∀ b, FzA b → Fz1 b := fun b hb => by
        show if imm tt = true then FzB b else Fz b
        rw [if_pos him]; exact hfB b hb
      exact KI_mono hF hwA hk
    · obtain ⟨v', hv', hrep⟩ := R.objs id o1 ho'
      refine ⟨v', by rw [hρ1 id (R.dom id v' hv').1]; exact hv', ObjRep_mono m1 (fun b hm hb => ?_) hrep⟩
      have hl : Live h ρ id b := ⟨o1, v', ho', hm, hv', hb⟩
      refine hframe b (R.mt id b hl).2.1 fun ⟨j, hlj⟩ => ?_
      obtain ⟨id', hj, hl0⟩ := hlive j b hlj
      have := R.dis id id' b hl (hLh id' b hl0)
      subst this
      exact hn1 b hl0 (List.mem_of_getElem? hj)
  · rcases hliveN id b hl with ⟨i, v', rfl, hi, hb⟩ | ⟨hl0, h1, h2, _⟩
    · have hbm : b ∈ bl := by rw [← hvb]; exact List.mem_flatMap.2 ⟨v', List.mem_of_getElem? hi, by simp [hb]⟩
      obtain ⟨h1, h2, h3⟩ := hbl b hbm
      refine ⟨fun hf => h1 (hFB1 b hf), h2, ?_⟩
      rcases h3 with ⟨j, hlj⟩ | h3
      · obtain ⟨id', hj, hl0⟩ := hlive j b hlj
        exact (R.mt id' b (hLh id' b hl0)).2.2
      · exact .inr (by have := R.env.size; omega)
    · exact ⟨h1, h2, (R.mt id b hl0).2.2⟩
  · have inbl : ∀ i v', vals[i]? = some v' → blkV v' = some b → b ∈ bl := fun i v' hi hb => by rw [← hvb]; exact List.mem_flatMap.2 ⟨v', List.mem_of_getElem? hi, by simp [hb]⟩
    rcases hliveN id b hl with ⟨i, v', rfl, hi, hb⟩ | ⟨hl0, _, _, hnb⟩
    · rcases hliveN id' b hl' with ⟨i', v'', rfl, hi', hb'⟩ | ⟨_, _, _, hnb⟩
      · rw [blks_idx (by rw [hvb]; exact hbn) hi hi' hb hb']
      · exact absurd (inbl i v' hi hb) hnb
    · rcases hliveN id' b hl' with ⟨i', v'', rfl, hi', hb'⟩ | ⟨hl0', _, _, _⟩
      · exact absurd (inbl i' v'' hi' hb') hnb
      · exact R.dis id id' b hl0 hl0'
end
end Go.Sx
