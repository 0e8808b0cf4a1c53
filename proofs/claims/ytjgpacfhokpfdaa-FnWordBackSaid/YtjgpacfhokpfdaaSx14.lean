/- A call of a function that answers as the plain machine says. Any program. -/
import Derived.Test.YtjgpacfhokpfdaaSx13
set_option linter.unusedVariables false
set_option linter.unusedSimpArgs false
namespace Go.Sx
open Go.RowKit

theorem updF_cases (u : Upd) : ∀ (h : Hp) (id : Nat), (id ∉ u.map (·.1) ∧ updF h u id = h id) ∨ ∃ p ∈ u, p.1 = id ∧ updF h u id = p.2 := by
  induction u with
  | nil => intro h id; exact .inl ⟨by simp, rfl⟩
  | cons p r ih =>
    intro h id
    rcases ih (fun j => if j = p.1 then p.2 else h j) id with ⟨hn, he⟩ | ⟨q, hq, h1, h2⟩
    · by_cases hp : id = p.1
      · exact .inr ⟨p, List.mem_cons_self, hp.symm, by show updF _ r id = _; rw [he, if_pos hp]⟩
      · refine .inl ⟨?_, by show updF _ r id = _; rw [he, if_neg hp]⟩
        simp only [List.map_cons, List.mem_cons, not_or]
        exact ⟨hp, hn⟩
    · exact .inr ⟨q, List.mem_cons_of_mem _ hq, h1, h2⟩
theorem apartC_not {ids : List Nat} : ∀ {cs : List AC}, apartC ids cs = true → ∀ id ∈ oIds cs, id ∉ ids
  | [], _, id, hi => by cases hi
  | c :: r, h, id, hi => by
    cases c <;> simp only [apartC, oIds] at h hi <;> try exact apartC_not h id hi
    simp only [Bool.and_eq_true, Bool.not_eq_true'] at h
    rcases List.mem_cons.1 hi with hi | hi
    · subst hi
      intro hm
      have := h.1
      rw [List.elem_eq_contains] at this
      simp [hm] at this
    · exact apartC_not h.2 id hi
section
variable {E : Env} {hr : Hp}
theorem gone_mem : ∀ (ids : List Nat) (p : Nat × Option Obj), p ∈ gone hr ids → p.1 ∈ ids ∧ p.2 = none
  | [], p, hp => by cases hp
  | id :: r, p, hp => by
    have ih := gone_mem r p
    simp only [gone] at hp
    split at hp
    · rename_i e t xs ho
      rcases List.mem_cons.1 hp with rfl | hp
      · exact ⟨List.mem_cons_self, rfl⟩
      · exact ⟨List.mem_cons_of_mem _ (ih hp).1, (ih hp).2⟩
    · rename_i e t xs ho
      rcases List.mem_cons.1 hp with rfl | hp
      · exact ⟨List.mem_cons_self, rfl⟩
      · exact ⟨List.mem_cons_of_mem _ (ih hp).1, (ih hp).2⟩
    · rename_i e t xs ho
      rcases List.mem_cons.1 hp with rfl | hp
      · exact ⟨List.mem_cons_self, rfl⟩
      · exact ⟨List.mem_cons_of_mem _ (ih hp).1, (ih hp).2⟩
    · rename_i e t xs ho
      rcases List.mem_cons.1 hp with rfl | hp
      · exact ⟨List.mem_cons_self, rfl⟩
      · exact ⟨List.mem_cons_of_mem _ (ih hp).1, (ih hp).2⟩
    · rename_i e t xs ho
      rcases List.mem_cons.1 hp with rfl | hp
      · exact ⟨List.mem_cons_self, rfl⟩
      · exact ⟨List.mem_cons_of_mem _ (ih hp).1, (ih hp).2⟩
    · exact ⟨List.mem_cons_of_mem _ (ih hp).1, (ih hp).2⟩
theorem gone_has : ∀ (ids : List Nat) (id e : Nat) (t : Ty) (xs : List (el t)), id ∈ ids → hr id = some (.own e t xs) → id ∈ (gone hr ids).map (·.1)
  | i :: r, id, e, t, xs, hi, ho => by
    simp only [gone]
    rcases List.mem_cons.1 hi with rfl | hi
    · rw [ho]; simp
    · have ih := gone_has r id e t xs hi ho
      split
      · simp only [List.map_cons, List.mem_cons]; exact .inr ih
      · simp only [List.map_cons, List.mem_cons]; exact .inr ih
      · simp only [List.map_cons, List.mem_cons]; exact .inr ih
      · simp only [List.map_cons, List.mem_cons]; exact .inr ih
      · simp only [List.map_cons, List.mem_cons]; exact .inr ih
      · exact ih
theorem gone_hasM : ∀ (ids : List Nat) (id T n : Nat) (es : List (List Int × Int)), id ∈ ids → hr id = some (.mp T n es) → id ∈ (gone hr ids).map (·.1)
  | i :: r, id, T, n, es, hi, ho => by
    simp only [gone]
    rcases List.mem_cons.1 hi with rfl | hi
    · rw [ho]; simp
    · have ih := gone_hasM r id T n es hi ho
      split
      · simp only [List.map_cons, List.mem_cons]; exact .inr ih
      · simp only [List.map_cons, List.mem_cons]; exact .inr ih
      · simp only [List.map_cons, List.mem_cons]; exact .inr ih
      · simp only [List.map_cons, List.mem_cons]; exact .inr ih
      · simp only [List.map_cons, List.mem_cons]; exact .inr ih
      · exact ih
theorem gone_hasQ : ∀ (ids : List Nat) (id T : Nat) (n : Ty) (es : List (Int × el n)), id ∈ ids → hr id = some (.mq T n es) → id ∈ (gone hr ids).map (·.1)
  | i :: r, id, T, n, es, hi, ho => by
    simp only [gone]
    rcases List.mem_cons.1 hi with rfl | hi
    · rw [ho]; simp
    · have ih := gone_hasQ r id T n es hi ho
      split
      · simp only [List.map_cons, List.mem_cons]; exact .inr ih
      · simp only [List.map_cons, List.mem_cons]; exact .inr ih
      · simp only [List.map_cons, List.mem_cons]; exact .inr ih
      · simp only [List.map_cons, List.mem_cons]; exact .inr ih
      · simp only [List.map_cons, List.mem_cons]; exact .inr ih
      · exact ih
theorem gone_hasP : ∀ (ids : List Nat) (id T : Nat) (n : Ty) (es : List (el n)), id ∈ ids → hr id = some (.dp T n es) → id ∈ (gone hr ids).map (·.1)
  | i :: r, id, T, n, es, hi, ho => by
    simp only [gone]
    rcases List.mem_cons.1 hi with rfl | hi
    · rw [ho]; simp
    · have ih := gone_hasP r id T n es hi ho
      split
      · simp only [List.map_cons, List.mem_cons]; exact .inr ih
      · simp only [List.map_cons, List.mem_cons]; exact .inr ih
      · simp only [List.map_cons, List.mem_cons]; exact .inr ih
      · simp only [List.map_cons, List.mem_cons]; exact .inr ih
      · simp only [List.map_cons, List.mem_cons]; exact .inr ih
      · exact ih
theorem gone_hasD : ∀ (ids : List Nat) (id T : Nat) (n : Ty) (es : List (el n)) (a b c : Nat), id ∈ ids → hr id = some (.dh T n es a b c) → id ∈ (gone hr ids).map (·.1)
  | i :: r, id, T, n, es, a, b, c, hi, ho => by
    simp only [gone]
    rcases List.mem_cons.1 hi with rfl | hi
    · rw [ho]; simp
    · have ih := gone_hasD r id T n es a b c hi ho
      split
      · simp only [List.map_cons, List.mem_cons]; exact .inr ih
      · simp only [List.map_cons, List.mem_cons]; exact .inr ih
      · simp only [List.map_cons, List.mem_cons]; exact .inr ih
      · simp only [List.map_cons, List.mem_cons]; exact .inr ih
      · simp only [List.map_cons, List.mem_cons]; exact .inr ih
      · exact ih
theorem cellTy_sz {d : Option Ty} {c : AC} {t : Ty} (h : cellTy hr d c = some t) : sz t = 1 := by
  cases c with
  | o id =>
    simp only [cellTy] at h
    split at h <;> cases h <;> rfl
  | nilsl =>
    simp only [cellTy] at h
    split at h <;> cases h <;> rfl
  | fn f caps =>
    unfold cellTy at h
    split at h <;> first | (cases h; done) | (cases ‹AC.fn f caps = _›; done) | (cases h; rfl)
  | int k n => cases h; rfl
  | bool b => cases h; rfl
  | str s => cases h; rfl
  | sl e t xs => cases h; rfl
  | pr t x off =>
    simp only [cellTy] at h
    cases hb : Nat.beq off 0 with
    | true => rw [hb] at h; cases h; rfl
    | false => rw [hb] at h; cases h
  | mr T t es => cases h; rfl
  | _ => cases h
theorem cellTys_len : ∀ {cs : List AC} {ds : List Ty} {ts : List Ty}, cellTys hr ds cs = some ts → sz (tupTy ts) = cs.length
  | [], ds, ts, h => by simp only [cellTys, Option.some.injEq] at h; subst h; rfl
  | c :: cs, ds, ts, h => by
    simp only [cellTys] at h
    cases hc : cellTy hr ds.head? c with
    | none => rw [hc] at h; cases h
    | some t =>
      cases hr' : cellTys hr ds.tail cs with
      | none => rw [hc, hr'] at h; cases h
      | some l =>
        rw [hc, hr'] at h
        cases h
        simp only [tupTy, sz, cellTy_sz hc, cellTys_len hr', List.length_cons]
        omega
/-- The variables that come back. -/
theorem boxPut_spec {w' : World} {ρ ρ0 ρ1 : Nat → Option Value} {Fz1 : Nat → Prop} {ids : List Nat} : ∀ (l : List Nat) (bs : List (Nat × Nat × Ty)) (i : Nat) (bv : List Value) (acs : List AC), boxTys E hr l = some bs → BoxOut w' ρ0 i (l.map fun id => renO ids (hr id)) bv →
    (∀ j id, l[j]? = some id → ρ0 (i + j) = ρ id) → All2 (ACRep w' ρ1 Fz1) acs bv →
    (∀ p ∈ boxPut bs acs, ∃ id ty cs0 cs' g cv, p = (id, some (.box ty cs')) ∧ id ∈ l ∧ hr id = some (.box ty cs0) ∧ ρ id = some (.pointer (some ⟨g, 0, none⟩)) ∧ w'.heap[g]? = some (.cells cv ty (0, 0)) ∧ All2 (ACRep w' ρ1 Fz1) cs' cv.toList) ∧
    (∀ id ∈ l, ∀ ty cs0, hr id = some (.box ty cs0) → id ∈ (boxPut bs acs).map (·.1))
  | [], bs, i, bv, acs, hb, ho, hρ, ha => by
    simp only [boxTys, Option.some.injEq] at hb
    subst hb
    exact ⟨(by intro p hp; cases hp), (by intro id hi; cases hi)⟩
  | id :: r, bs, i, bv, acs, hb, ho, hρ, ha => by
    simp only [boxTys] at hb
    have hρ' : ∀ j id', r[j]? = some id' → ρ0 (i + 1 + j) = ρ id' := fun j id' hj => by
      have := hρ (j + 1) id' (by simpa using hj)
      rwa [← Nat.add_assoc, Nat.add_right_comm] at this
    cases hid : hr id with
    | none => rw [hid] at hb; cases hb
    | some ob =>
      rw [hid] at hb
      cases hbr : boxTys E hr r with
      | none => rw [hbr] at hb; cases ob <;> cases hb
      | some l' =>
        rw [hbr] at hb
        simp only [List.map_cons, hid] at ho
        cases ob with
        | box ty cs =>
          simp only at hb
          split at hb
          · rename_i ts hts
            cases hb
            obtain ⟨g, cv, rest, h1, h2, h3, rfl, h4⟩ := ho
            have hsz : sz (tupTy ts) = cv.toList.length := by rw [cellTys_len hts]; have h9 : cv.toList.length = cv.size := Array.length_toList; rw [h9, h3]; simp
            have htk := ha.take (sz (tupTy ts))
            have hdr := ha.drop (sz (tupTy ts))
            rw [hsz, List.take_left] at htk
            rw [hsz, List.drop_left] at hdr
            obtain ⟨ih1, ih2⟩ := boxPut_spec r l' (i + 1) rest _ hbr h4 hρ' hdr
            refine ⟨fun p hp => ?_, fun id' hi ty' cs0 ho' => ?_⟩
            · simp only [boxPut] at hp
              rcases List.mem_cons.1 hp with rfl | hp
              · refine ⟨id, ty, cs, _, g, cv, rfl, List.mem_cons_self, hid, ?_, h2, ?_⟩
                · rw [← hρ 0 id rfl]; exact h1
                · rw [hsz]; exact htk
              · rw [hsz] at hp
                obtain ⟨id', ty', cs0, cs', g', cv', e1, e2, e3⟩ := ih1 p hp
                exact ⟨id', ty', cs0, cs', g', cv', e1, List.mem_cons_of_mem _ e2, e3⟩
            · simp only [boxPut, List.map_cons, List.mem_cons]
              rcases List.mem_cons.1 hi with rfl | hi
              · exact .inl rfl
              · rw [hsz]; exact .inr (ih2 id' hi ty' cs0 ho')
          · cases hb
        | own e t xs =>
          cases hb
          obtain ⟨ih1, ih2⟩ := boxPut_spec r bs (i + 1) bv acs hbr ho hρ' ha
          refine ⟨fun p hp => ?_, fun id' hi ty' cs0 ho' => ?_⟩
          · obtain ⟨id', ty', cs0, cs', g', cv', e1, e2, e3⟩ := ih1 p hp
            exact ⟨id', ty', cs0, cs', g', cv', e1, List.mem_cons_of_mem _ e2, e3⟩
          · rcases List.mem_cons.1 hi with rfl | hi
            · rw [hid] at ho'; cases ho'
            · exact ih2 id' hi ty' cs0 ho'
        | fro e t xs =>
          cases hb
          obtain ⟨ih1, ih2⟩ := boxPut_spec r bs (i + 1) bv acs hbr ho hρ' ha
          refine ⟨fun p hp => ?_, fun id' hi ty' cs0 ho' => ?_⟩
          · obtain ⟨id', ty', cs0, cs', g', cv', e1, e2, e3⟩ := ih1 p hp
            exact ⟨id', ty', cs0, cs', g', cv', e1, List.mem_cons_of_mem _ e2, e3⟩
          · rcases List.mem_cons.1 hi with rfl | hi
            · rw [hid] at ho'; cases ho'
            · exact ih2 id' hi ty' cs0 ho'
        | dp e t xs =>
          cases hb
          obtain ⟨ih1, ih2⟩ := boxPut_spec r bs (i + 1) bv acs hbr ho hρ' ha
          refine ⟨fun p hp => ?_, fun id' hi ty' cs0 ho' => ?_⟩
          · obtain ⟨id', ty', cs0, cs', g', cv', e1, e2, e3⟩ := ih1 p hp
            exact ⟨id', ty', cs0, cs', g', cv', e1, List.mem_cons_of_mem _ e2, e3⟩
          · rcases List.mem_cons.1 hi with rfl | hi
            · rw [hid] at ho'; cases ho'
            · exact ih2 id' hi ty' cs0 ho'
        | dh e t xs ii oo nn =>
          cases hb
          obtain ⟨ih1, ih2⟩ := boxPut_spec r bs (i + 1) bv acs hbr ho hρ' ha
          refine ⟨fun p hp => ?_, fun id' hi ty' cs0 ho' => ?_⟩
          · obtain ⟨id', ty', cs0, cs', g', cv', e1, e2, e3⟩ := ih1 p hp
            exact ⟨id', ty', cs0, cs', g', cv', e1, List.mem_cons_of_mem _ e2, e3⟩
          · rcases List.mem_cons.1 hi with rfl | hi
            · rw [hid] at ho'; cases ho'
            · exact ih2 id' hi ty' cs0 ho'
        | mp T n es =>
          cases hb
          obtain ⟨ih1, ih2⟩ := boxPut_spec r bs (i + 1) bv acs hbr ho hρ' ha
          refine ⟨fun p hp => ?_, fun id' hi ty' cs0 ho' => ?_⟩
          · obtain ⟨id', ty', cs0, cs', g', cv', e1, e2, e3⟩ := ih1 p hp
            exact ⟨id', ty', cs0, cs', g', cv', e1, List.mem_cons_of_mem _ e2, e3⟩
          · rcases List.mem_cons.1 hi with rfl | hi
            · rw [hid] at ho'; cases ho'
            · exact ih2 id' hi ty' cs0 ho'
        | mq T n es =>
          cases hb
          obtain ⟨ih1, ih2⟩ := boxPut_spec r bs (i + 1) bv acs hbr ho hρ' ha
          refine ⟨fun p hp => ?_, fun id' hi ty' cs0 ho' => ?_⟩
          · obtain ⟨id', ty', cs0, cs', g', cv', e1, e2, e3⟩ := ih1 p hp
            exact ⟨id', ty', cs0, cs', g', cv', e1, List.mem_cons_of_mem _ e2, e3⟩
          · rcases List.mem_cons.1 hi with rfl | hi
            · rw [hid] at ho'; cases ho'
            · exact ih2 id' hi ty' cs0 ho'
end
section
variable {E : Env} {w0 w w' : World} {T Fz0 Fz Fz' U : Nat → Prop} {h hr : Hp} {ρ : Nat → Option Value}
theorem argC_rep (Rr : RelM w0 T Fz0 U hr ρ Fz w) {c : AC} {v : Value} (hc : ACRep w ρ Fz c v) (hf : ∀ b, Fz b → Fz' b) (ho : ∀ id, c = .o id → ∀ b, LiveO hr ρ id b → Fz' b) : ACRep w ρ Fz' (argC hr c) v := by
  have m : Mono w ρ Fz w ρ Fz' := ⟨fun _ _ e => .inl e, hf, fun _ _ => rfl⟩
  cases c with
  | o id =>
    simp only [argC, slc]
    cases hob : hr id with
    | none => trivial
    | some ob =>
      obtain ⟨v', hid, hrep, hgv⟩ := Rr.oRep hob hc
      cases ob with
      | box ty cs => trivial
      | own e t xs =>
        obtain ⟨vs, hown, hrows⟩ := hrep
        rw [own_gval hown] at hgv
        subst hgv
        exact own_KI hown hrows hf fun b hb => ho id rfl b ⟨e, t, xs, _, .inl hob, hid, blkOf hb⟩
      | fro e t xs => exact KI_mono hf (fun _ _ => rfl) (show KI w Fz (.sl e t) xs [v] from hgv ▸ hrep)
      | mp T n es => trivial
      | mq T n es => trivial
      | dh e t xs ii oo nn => trivial
      | dp e t xs =>
        obtain ⟨u, bl, rfl, hd, hn⟩ := hrep
        cases hgv
        exact DO_KI (t := .sl e t) (fun b hm => ho id rfl b ⟨e, t, xs, _, .inr hob, hid, mem_blksV.1 (by rw [ghost_blks]; exact hm)⟩) hd
  | _ => exact ACRep_mono m hc
theorem argV_rep (Rr : RelM w0 T Fz0 U hr ρ Fz w) {x : TV} {v : Value} (hx : TVRep w ρ Fz x v) (hf : ∀ b, Fz b → Fz' b) (ho : ∀ id ∈ oIds (ownOf x), ∀ b, LiveO hr ρ id b → Fz' b) : TVRep w ρ Fz' (argV hr x) v := by
  have m : Mono w ρ Fz w ρ Fz' := ⟨fun _ _ e => .inl e, hf, fun _ _ => rfl⟩
  cases x with
  | tup vs => exact TVRep_mono m hx
  | v av =>
    cases av with
    | one c => exact argC_rep Rr hx hf fun id hc b hl => ho id (by subst hc; simp [ownOf, AV.cells, oIds]) b hl
    | agg cs =>
      obtain ⟨cv, rfl, hcs⟩ := hx
      refine ⟨cv, rfl, ?_⟩
      have key : ∀ (cs : List AC) (vs : List Value), All2 (ACRep w ρ Fz) cs vs → (∀ id ∈ oIds cs, ∀ b, LiveO hr ρ id b → Fz' b) → All2 (ACRep w ρ Fz') (cs.map (argC hr)) vs := by
        intro cs
        induction cs with
        | nil => intro vs h _; cases vs with
          | nil => trivial
          | cons => exact h.elim
        | cons c cs ih =>
          intro vs h hs
          cases vs with
          | nil => exact h.elim
          | cons v vs => exact ⟨argC_rep Rr h.1 hf fun id hc b hl => hs id (by subst hc; simp [oIds]) b hl, ih vs h.2 fun id hi => hs id (oIds_cons c cs id hi)⟩
      exact key cs cv.toList hcs ho
theorem nodup_idx {l : List Nat} (hn : l.Nodup) {i j id : Nat} (hi : l[i]? = some id) (hj : l[j]? = some id) : i = j := by
  obtain ⟨h1, e1⟩ := List.getElem?_eq_some_iff.1 hi
  obtain ⟨h2, e2⟩ := List.getElem?_eq_some_iff.1 hj
  have hp := List.pairwise_iff_getElem.1 hn
  rcases Nat.lt_trichotomy i j with h | h | h
  · exact absurd (e1.trans e2.symm) (hp i j h1 h2 h)
  · exact h
  · exact absurd (e2.trans e1.symm) (hp j i h2 h1 h)
theorem blks_idx : ∀ {vals : List Value} {i j : Nat} {u v : Value} {b : Nat}, (vals.flatMap blksV).Nodup → vals[i]? = some u → vals[j]? = some v → BlkOf u b → BlkOf v b → i = j
  | [], i, j, u, v, b, _, hi, _, _, _ => by simp at hi
  | x :: vals, 0, 0, u, v, b, _, _, _, _, _ => rfl
  | x :: vals, 0, j + 1, u, v, b, hn, hi, hj, hu, hv => by
    simp only [List.flatMap_cons, List.nodup_append] at hn
    simp only [List.getElem?_cons_zero, Option.some.injEq] at hi
    subst hi
    have h1 : b ∈ blksV x := mem_blksV.2 hu
    have h2 : b ∈ vals.flatMap blksV := List.mem_flatMap.2 ⟨v, List.mem_of_getElem? (by simpa using hj), mem_blksV.2 hv⟩
    exact absurd rfl (hn.2.2 b h1 b h2)
  | x :: vals, i + 1, 0, u, v, b, hn, hi, hj, hu, hv => by
    simp only [List.flatMap_cons, List.nodup_append] at hn
    simp only [List.getElem?_cons_zero, Option.some.injEq] at hj
    subst hj
    have h1 : b ∈ blksV x := mem_blksV.2 hv
    have h2 : b ∈ vals.flatMap blksV := List.mem_flatMap.2 ⟨u, List.mem_of_getElem? (by simpa using hi), mem_blksV.2 hu⟩
    exact absurd rfl (hn.2.2 b h1 b h2)
  | x :: vals, i + 1, j + 1, u, v, b, hn, hi, hj, hu, hv => by
    simp only [List.flatMap_cons, List.nodup_append] at hn
    rw [blks_idx (vals := vals) (i := i) (j := j) hn.2.1 (by simpa using hi) (by simpa using hj) hu hv]
theorem hpf_map {ids : List Nat} {j : Nat} {o : Obj} (ho : hpf (ids.map fun id => renO ids (hr id)) j = some o) : ∃ id o1, ids[j]? = some id ∧ hr id = some o1 ∧ renO ids (some o1) = some o := by
  unfold hpf at ho
  rw [List.getD_eq_getElem?_getD, List.getElem?_map] at ho
  cases hj : ids[j]? with
  | none => rw [hj] at ho; cases ho
  | some id =>
    rw [hj] at ho
    simp only [Option.map_some, Option.getD_some] at ho
    cases h1 : hr id with
    | none => rw [h1] at ho; cases ho
    | some o1 => rw [h1] at ho; exact ⟨id, o1, rfl, h1, ho⟩
theorem renO_wr {ids : List Nat} {o1 o : Obj} (h : renO ids (some o1) = some o) : o.wr = o1.wr := by
  cases o1 <;> cases h <;> rfl

theorem call_ok {call : CallF} (hcall : CallOk E call) (R : RelM w0 T Fz0 U h ρ Fz w) (hsub : ∀ id ob, hr id = some ob → h id = some ob) {mv : Bool} {next f : Nat} {args : List TV} (hno : ∀ ids, rsOf E f (args.map fun v => renV ids (cond mv v (argV hr v))) = []) {cargs : Array Value} (ha : All2 (TVRep w ρ Fz) args cargs.toList)
    {q : SR} (hq : callSR E call mv hr next f args = some q) (x : el q.τ) (hx : q.comp = some x) (hnew : ∀ i ∈ (q.upd x).map (·.1), next ≤ i → ¬ U i) :
    Calls E.P f cargs w fun e w' => ∃ v ρ' Fz', e = .returned v ∧ RelM w0 T Fz0 (fun i => U i ∨ i ∈ (q.upd x).map (·.1)) (updF h (q.upd x)) ρ' Fz' w' ∧ Mono w ρ Fz w' ρ' Fz' ∧ TVRep w' ρ' Fz' (q.val x) v := by
  unfold callSR at hq
  cases hts : resTys E f with
  | none => rw [hts] at hq; cases hq
  | some ts =>
  rw [hts] at hq
  simp only at hq
  generalize hids : closeIds hr 2 ((args.flatMap ptrV).foldl (fun a i => addNew a [i]) []) ++ cond mv (oIds (args.flatMap ownOf)) [] = ids at hq
  generalize hown : cond mv [] (args.flatMap ownOf) = own at hq
  cases hbs : boxTys E hr ids with
  | none => rw [hbs] at hq; cases hq
  | some bs =>
  rw [hbs] at hq
  simp only at hq
  replace hq := cond_some hq
  obtain ⟨hcnd, hq⟩ := hq
  cases hq
  simp only [Bool.and_eq_true] at hcnd
  obtain ⟨hap, hnd⟩ := hcnd
  have hnd := nodupB_nodup hnd
  have hap := apartC_not hap
  have Rr : RelM w0 T Fz0 U hr ρ Fz w := R.less hsub
  simp only at hx hnew ⊢
  -- what the callee has
  let FzA : Nat → Prop := fun b => Fz b ∨ ∃ id ∈ oIds own, LiveO hr ρ id b
  have hfA : ∀ b, Fz b → FzA b := fun b hb => .inl hb
  have mA : Mono w ρ Fz w ρ FzA := ⟨fun _ _ e => .inl e, hfA, fun _ _ => rfl⟩
  let h0 : HpL := ids.map fun id => renO ids (hr id)
  let ρ0 := rename ρ ids
  have hρ0 : ∀ j id, ids[j]? = some id → ρ0 j = ρ id := fun j id hj => by simp [ρ0, rename, hj]
  have hlive : ∀ j b, Live (hpf h0) ρ0 j b → ∃ id, ids[j]? = some id ∧ Live hr ρ id b := by
    intro j b ⟨o, v, e1, e2, e3, e4⟩
    obtain ⟨id, o1, hj, ho1, hro⟩ := hpf_map e1
    exact ⟨id, hj, o1, v, ho1, by rw [← renO_wr hro]; exact e2, by rw [← hρ0 j id hj]; exact e3, e4⟩
  have hLh : ∀ id b, Live hr ρ id b → Live h ρ id b := fun id b ⟨o, v, e1, e2⟩ => ⟨o, v, hsub id o e1, e2⟩
  have hnA : ∀ id b, id ∈ ids → Live hr ρ id b → ¬ FzA b := by
    intro id b hi hl hf
    rcases hf with hf | ⟨id', hi', hl'⟩
    · exact (Rr.mt id b hl).1 hf
    · have := Rr.dis id id' b hl hl'.live
      subst this
      exact hap id hi' hi
  have hAlt : ∀ b, FzA b → b < w.heap.size := by
    intro b hb
    rcases hb with hb | ⟨id', hi', hl'⟩
    · exact R.fzlt b hb
    · exact (Rr.mt id' b hl'.live).2.1
  have Rc : RelM w (Handed h0 ρ0) FzA (fun i => i < h0.length) (hpf h0) ρ0 FzA w := by
    refine ⟨Below.refl _ _, fun _ _ _ => rfl, fun _ h => h, hAlt, fun _ h => .inl h, fun j v hj => ?_, fun j o ho => ?_, fun j b hl => ?_, fun j j' b hl hl' => ?_⟩
    · have hj' : (ids[j]?).bind ρ = some v := hj
      cases hi : ids[j]? with
      | none => rw [hi] at hj'; cases hj'
      | some id =>
        rw [hi] at hj'
        refine ⟨?_, (R.dom id v hj').2⟩
        show j < (ids.map _).length
        rw [List.length_map]
        exact (List.getElem?_eq_some_iff.1 hi).1
    · obtain ⟨id, o1, hj, ho1, hro⟩ := hpf_map ho
      obtain ⟨v, hv, hrep⟩ := Rr.objs id o1 ho1
      refine ⟨v, by rw [hρ0 j id hj]; exact hv, ?_⟩
      cases o1 with
      | box ty cs =>
        cases hro
        obtain ⟨g, cv, rfl, hg, hc⟩ := hrep
        exact ⟨g, cv, rfl, hg, hc.map (renC ids) fun _ _ h => ren_rep h hfA⟩
      | own e t xs =>
        cases hro
        obtain ⟨vs, ho, hrows⟩ := hrep
        exact ⟨vs, ho, Rows_mono hfA (fun _ _ => rfl) hrows⟩
      | fro e t xs =>
        cases hro
        exact KI_mono hfA (fun _ _ => rfl) hrep
      | mp T n es =>
        cases hro
        exact hrep
      | dh e t xs ii oo nn => cases hro
      | dp e t xs =>
        cases hro
        exact hrep
      | mq T n es =>
        cases hro
        obtain ⟨g, hv, arr, clk, hg, he, hn⟩ := hrep
        exact ⟨g, hv, arr, clk, hg, MqE_imp (fun e _ v ⟨c, ho, hk⟩ => ⟨c, ho, KI_mono (t := n) hfA (fun _ _ => rfl) hk⟩) he, hn⟩
    · obtain ⟨id, hj, hl0⟩ := hlive j b hl
      exact ⟨hnA id b (List.mem_of_getElem? hj) hl0, (Rr.mt id b hl0).2.1, .inl ⟨j, hl⟩⟩
    · obtain ⟨id, hj, hl0⟩ := hlive j b hl
      obtain ⟨id', hj', hl0'⟩ := hlive j' b hl'
      have := Rr.dis id id' b hl0 hl0'
      subst this
      exact nodup_idx hnd hj hj'
  have hargs : All2 (TVRep w ρ0 FzA) (args.map fun v => renV ids (cond mv v (argV hr v))) cargs.toList := by
    cases mv with
    | true => exact ha.map (renV ids) fun _ _ h => renV_rep h hfA
    | false =>
    simp only [cond_false] at hown ⊢
    have key : ∀ (l : List TV) (vs : List Value), All2 (TVRep w ρ Fz) l vs → (∀ id ∈ oIds (l.flatMap ownOf), id ∈ oIds own) → All2 (TVRep w ρ0 FzA) (l.map fun v => renV ids (argV hr v)) vs := by
      intro l
      induction l with
      | nil => intro vs h _; cases vs with
        | nil => trivial
        | cons => exact h.elim
      | cons x l ih =>
        intro vs hl hs
        cases vs with
        | nil => exact hl.elim
        | cons v vs =>
          simp only [List.flatMap_cons, oIds_app] at hs
          refine ⟨renV_rep (argV_rep (Fz' := FzA) Rr hl.1 hfA fun id hi b hl' => .inr ⟨id, hs id (List.mem_append_left _ hi), hl'⟩) (fun _ h => h), ih vs hl.2 fun id hi => hs id (List.mem_append_right _ hi)⟩
    exact key args cargs.toList ha (by rw [hown]; exact fun _ h => h)
  refine (hcall f _ _ _ x hx ts hts w ρ0 FzA cargs Rc hargs).mono ?_
  rintro e w' ⟨v, rfl, ⟨cs, bv, us, FzB, bl, hpk, hbo, hus, hko, hbn, hbl, hfB, hfB2, hbx⟩, henv, hframe⟩
  rw [hno] at hus
  cases us with
  | cons => exact hus.elim
  | nil =>
  rw [List.append_nil] at hko
  -- what has come back
  generalize htt : resT (joinTy ts) bs = tt at *
  let Fz1 : Nat → Prop := fun b => if imm tt = true then FzB b else Fz b
  have hfz1 : ∀ b, Fz b → Fz1 b := by
    intro b hb
    show if imm tt = true then FzB b else Fz b
    split
    · exact hfB b (hfA b hb)
    · exact hb
  have hFB1 : ∀ b, Fz1 b → FzB b := by
    intro b hb
    have hb : if imm tt = true then FzB b else Fz b := hb
    split at hb
    · exact hb
    · exact hfB b (hfA b hb)
  have hko1 : KO w' Fz1 tt x (cs ++ bv) bl := by
    cases hi : imm tt with
    | true =>
      have : Fz1 = FzB := by funext b; simp [Fz1, hi]
      rw [this]; exact hko
    | false => exact KO_noimm hi hko
  obtain ⟨vals, hvn, hvb, hv1, hvr, hvm, hvo⟩ := cellsOwn_spec (w := w') (Fz := Fz1) tt next x (cs ++ bv) bl hko1
  let ρ1 : Nat → Option Value := fun i => if next ≤ i ∧ i < next + vals.length then vals[i - next]? else ρ i
  have hnewU : ∀ i, next ≤ i → i < next + vals.length → ¬ U i := by
    intro i h1 h2
    refine hnew i ?_ h1
    simp only [List.map_append, List.mem_append]
    refine .inl (.inr ?_)
    rw [hvm, List.mem_range'_1]
    exact ⟨h1, h2⟩
  have hρ1 : ∀ i, U i → ρ1 i = ρ i := by
    intro i hi
    show (if next ≤ i ∧ i < next + vals.length then vals[i - next]? else ρ i) = _
    rw [if_neg (fun hh => hnewU i hh.1 hh.2 hi)]
  have hρn : ∀ i v, vals[i]? = some v → ρ1 (next + i) = some v := by
    intro i v hi
    have := (List.getElem?_eq_some_iff.1 hi).1
    show (if next ≤ next + i ∧ next + i < next + vals.length then vals[next + i - next]? else ρ (next + i)) = _
    rw [if_pos ⟨by omega, by omega⟩, Nat.add_sub_cancel_left]
    exact hi
  have hTnot : ∀ b, FzA b → ¬ Handed h0 ρ0 b := by
    rintro b hb ⟨j, hl⟩
    obtain ⟨id, hj, hl0⟩ := hlive j b hl
    exact hnA id b (List.mem_of_getElem? hj) hl0 hb
  have hwA : ∀ b, FzA b → w'.heap[b]? = w.heap[b]? := fun b hb => hframe b (hAlt b hb) (hTnot b hb)
  have m1 : Mono w ρ Fz w' ρ1 Fz1 := ⟨fun id v e => by rw [hρ1 id (R.dom id v e).1]; exact .inl e, hfz1, fun b hb => hwA b (hfA b hb)⟩
  have hacs : All2 (ACRep w' ρ1 Fz1) (cellsOwn tt next x).1 (cs ++ bv) := hvr ρ1 hρn
  obtain ⟨vs, hpl, hpv⟩ := hpk
  have hcsl : cs.length = sz (joinTy ts) := packL_len hpl
  have hacs1 := hacs.take (sz (joinTy ts))
  have hacs2 := hacs.drop (sz (joinTy ts))
  rw [← hcsl, List.take_left] at hacs1
  rw [← hcsl, List.drop_left] at hacs2
  rw [hcsl] at hacs1 hacs2
  obtain ⟨hbp1, hbp2⟩ := boxPut_spec (ρ := ρ) (ρ1 := ρ1) (Fz1 := Fz1) (ids := ids) ids bs 0 bv _ hbs hbo (fun j id hj => by rw [Nat.zero_add]; exact hρ0 j id hj) hacs2
  -- each name's object behind the call
  generalize hupd : (cond (imm tt) (frz hr own) [] ++ gone hr ids ++ (cellsOwn tt next x).2.1 ++ boxPut bs ((cellsOwn tt next x).1.drop (sz (joinTy ts)))) = upd at *
  have hUold : ∀ id ob, hr id = some ob → U id := fun id ob ho => by
    obtain ⟨v, hv, _⟩ := Rr.objs id ob ho
    exact (R.dom id v hv).1
  have hcase : ∀ id o1, updF h upd id = some o1 →
      (∃ i v, id = next + i ∧ vals[i]? = some v ∧ o1.wr = true ∧ ObjRep w' ρ1 Fz1 v o1) ∨
      (∃ ty cs0 cs' g cv, o1 = .box ty cs' ∧ id ∈ ids ∧ hr id = some (.box ty cs0) ∧ ρ id = some (.pointer (some ⟨g, 0, none⟩)) ∧ w'.heap[g]? = some (.cells cv ty (0, 0)) ∧ All2 (ACRep w' ρ1 Fz1) cs' cv.toList) ∨
      (∃ e t xs, imm tt = true ∧ id ∈ oIds own ∧ RowO (hr id) e t xs ∧ o1 = .fro e t xs) ∨
      (h id = some o1 ∧ (∀ b, Live hr ρ id b → id ∉ ids) ∧ (imm tt = true → ∀ b, LiveO hr ρ id b → id ∉ oIds own)) := by
    intro id o1 ho
    rcases updF_cases upd h id with ⟨hn, he⟩ | ⟨p, hp, hp1, hp2⟩
    · rw [he] at ho
      rw [← hupd] at hn
      simp only [List.map_append, List.mem_append, not_or] at hn
      obtain ⟨⟨⟨hnA', hnG⟩, _⟩, hnB⟩ := hn
      refine .inr (.inr (.inr ⟨ho, fun b ⟨ob, v, e1, e2, _⟩ hi => ?_, fun him b ⟨e, t, xs, v, e1, _⟩ hi => ?_⟩))
      · cases ob with
        | box ty cs0 => exact hnB (hbp2 id hi ty cs0 e1)
        | own e t xs => exact hnG (gone_has ids id e t xs hi e1)
        | mp T n es => exact hnG (gone_hasM ids id T n es hi e1)
        | mq T n es => exact hnG (gone_hasQ ids id T n es hi e1)
        | dp T n es => exact hnG (gone_hasP ids id T n es hi e1)
        | dh T n es a b c => exact hnG (gone_hasD ids id T n es a b c hi e1)
        | fro e t xs => simp [Obj.wr] at e2
      · rw [him] at hnA'
        exact hnA' (frz_has hr own id e t xs hi e1)
    · rw [ho] at hp2
      rw [← hupd] at hp
      simp only [List.mem_append] at hp
      rcases hp with ((hp | hp) | hp) | hp
      · cases him : imm tt with
        | false => rw [him] at hp; cases hp
        | true =>
          rw [him] at hp
          obtain ⟨h1, e, t, xs, h2, h3⟩ := frz_mem hr own p hp
          rw [hp1] at h1 h2
          rw [h3] at hp2
          cases hp2
          exact .inr (.inr (.inl ⟨e, t, xs, rfl, h1, h2, rfl⟩))
      · obtain ⟨_, h2⟩ := gone_mem ids p hp
        rw [h2] at hp2; cases hp2
      · obtain ⟨i, o, v, rfl, hi, hw, hrep⟩ := hvo p hp
        cases hp2
        exact .inl ⟨i, v, hp1.symm, hi, hw, hrep ρ1 hρn⟩
      · obtain ⟨id', ty, cs0, cs', g, cv, rfl, h1, h2, h3, h4, h5⟩ := hbp1 p hp
        cases hp1
        cases hp2
        exact .inr (.inl ⟨ty, cs0, cs', g, cv, rfl, h1, h2, h3, h4, h5⟩)
  -- what may be written behind the call
  have hliveN : ∀ id b, Live (updF h upd) ρ1 id b → (∃ i v, id = next + i ∧ vals[i]? = some v ∧ BlkOf v b) ∨
      (Live h ρ id b ∧ ¬ Fz1 b ∧ b < w'.heap.size ∧ (b ∉ bl)) := by
    intro id b ⟨o1, v, e1, e2, e3, e4⟩
    rcases hcase id o1 e1 with ⟨i, v', rfl, hi, _⟩ | ⟨ty, cs0, cs', g, cv, rfl, hi, ho, hρ, hg, _⟩ | ⟨e, t, xs, _, _, _, rfl⟩ | ⟨ho, hn1, hn2⟩
    · have := hρn i v' hi
      rw [this] at e3; cases e3
      exact .inl ⟨i, v, rfl, hi, e4⟩
    · have hU := hUold id _ ho
      rw [hρ1 id hU, hρ] at e3
      cases e3
      cases e4
      have hl : Live hr ρ id g := ⟨_, _, ho, rfl, hρ, rfl⟩
      obtain ⟨j, hj⟩ := List.mem_iff_getElem?.1 hi
      have := hbx j ty (cs0.map (renC ids)) g (by
        show (ids.map _).getD j none = _
        rw [List.getD_eq_getElem?_getD, List.getElem?_map, hj]
        simp [ho, renO]) (by rw [hρ0 j id hj]; exact hρ)
      exact .inr ⟨hLh id g hl, fun hf => this.2 (hFB1 g hf), (Array.getElem?_eq_some_iff.1 hg).1, this.1⟩
    · simp [Obj.wr] at e2
    · obtain ⟨v', hv', _⟩ := R.objs id o1 ho
      have hU := (R.dom id v' hv').1
      rw [hρ1 id hU] at e3
      have hl : Live h ρ id b := ⟨o1, v, ho, e2, e3, e4⟩
      have hm := R.mt id b hl
      have hTn : ¬ Handed h0 ρ0 b := by
        rintro ⟨j, hlj⟩
        obtain ⟨id', hj, hl0⟩ := hlive j b hlj
        have := R.dis id id' b hl (hLh id' b hl0)
        subst this
        exact hn1 b hl0 (List.mem_of_getElem? hj)
      refine .inr ⟨hl, fun hf => ?_, Nat.lt_of_lt_of_le hm.2.1 henv.size, fun hb => ?_⟩
      · have hf' : if imm tt = true then FzB b else Fz b := hf
        split at hf'
        · rename_i him
          rcases (hfB2 b hf').2 with h' | h' | h'
          · rcases h' with h' | ⟨id', hi', hl'⟩
            · exact hm.1 h'
            · have := R.dis id id' b hl (hLh id' b hl'.live)
              subst this
              exact hn2 him b hl' hi'
          · exact hTn h'
          · have := hm.2.1; omega
        · exact hm.1 hf'
      · rcases (hbl b hb).2.2 with h' | h'
        · exact hTn h'
        · have := hm.2.1; omega
  refine ⟨v, ρ1, Fz1, rfl, ⟨R.env.trans henv, fun b hb hT => ?_, fun b hb => hfz1 b (R.fz0 b hb), fun b hb => (hfB2 b (hFB1 b hb)).1, fun b hb => ?_, fun i v' hv' => ?_, fun id o1 ho => ?_, fun id b hl => ?_, fun id id' b hl hl' => ?_⟩, m1, packs_rep ⟨vs, hpl, hpv⟩ hacs1⟩
  · have hlt : b < w.heap.size := Nat.lt_of_lt_of_le hb R.env.size
    rw [hframe b hlt (fun ⟨j, hl⟩ => by
      obtain ⟨id, hj, hl0⟩ := hlive j b hl
      rcases (R.mt id b (hLh id b hl0)).2.2 with h' | h'
      · exact hT h'
      · omega)]
    exact R.frame b hb hT
  · have hb' : if imm tt = true then FzB b else Fz b := hb
    split at hb'
    · rcases (hfB2 b hb').2 with h' | ⟨j, hl⟩ | h'
      · rcases h' with h' | ⟨id', hi', hl'⟩
        · exact R.fznew b h'
        · exact .inr (R.mt id' b (hLh id' b hl'.live)).2.2
      · obtain ⟨id, hj, hl0⟩ := hlive j b hl
        exact .inr (R.mt id b (hLh id b hl0)).2.2
      · exact .inr (.inr (by have := R.env.size; omega))
    · exact R.fznew b hb'
  · have hv' : (if next ≤ i ∧ i < next + vals.length then vals[i - next]? else ρ i) = some v' := hv'
    split at hv'
    · rename_i hi
      refine ⟨.inr ?_, hv1 v' (List.mem_of_getElem? hv')⟩
      rw [← hupd]
      simp only [List.map_append, List.mem_append]
      refine .inl (.inr ?_)
      rw [hvm, List.mem_range'_1]
      exact hi
    · exact ⟨.inl (R.dom i v' hv').1, (R.dom i v' hv').2⟩
  · rcases hcase id o1 ho with ⟨i, v', rfl, hi, _, hrep⟩ | ⟨ty, cs0, cs', g, cv, rfl, hi, ho', hρ, hg, hc⟩ | ⟨e, t, xs, him, hi, ho', rfl⟩ | ⟨ho', hn1, hn2⟩
    · exact ⟨v', hρn i v' hi, hrep⟩
    · exact ⟨_, by rw [hρ1 id (hUold id _ ho')]; exact hρ, g, cv, rfl, hg, hc⟩
    · cases hob : hr id with
      | none => rw [hob] at ho'; rcases ho' with h | h <;> cases h
      | some ob =>
        obtain ⟨v', hv', hrep⟩ := Rr.objs id ob hob
        refine ⟨v', by rw [hρ1 id (hUold id _ hob)]; exact hv', ?_⟩
        have ho2 := ho'
        rw [hob] at ho2
        have hk : KI w FzA (.sl e t) xs [gval v'] := ho2.KI (ob := none) hrep hfA fun b hb => .inr ⟨id, hi, e, t, xs, v', ho', hv', hb⟩
        have hF : ∀ b, FzA b → Fz1 b := fun b hb => by
          show if imm tt = true then FzB b else Fz b
          rw [if_pos him]; exact hfB b hb
        exact KI_mono hF hwA hk
    · obtain ⟨v', hv', hrep⟩ := R.objs id o1 ho'
      refine ⟨v', by rw [hρ1 id (R.dom id v' hv').1]; exact hv', ObjRep_mono m1 (fun b hm hb => ?_) hrep⟩
      have hl : Live h ρ id b := ⟨o1, v', ho', hm, hv', hb⟩
      refine hframe b (R.mt id b hl).2.1 fun ⟨j, hlj⟩ => ?_
      obtain ⟨id', hj, hl0⟩ := hlive j b hlj
      have := R.dis id id' b hl (hLh id' b hl0)
      subst this
      exact hn1 b hl0 (List.mem_of_getElem? hj)
  · rcases hliveN id b hl with ⟨i, v', rfl, hi, hb⟩ | ⟨hl0, h1, h2, _⟩
    · have hbm : b ∈ bl := by rw [← hvb]; exact List.mem_flatMap.2 ⟨v', List.mem_of_getElem? hi, mem_blksV.2 hb⟩
      obtain ⟨h1, h2, h3⟩ := hbl b hbm
      refine ⟨fun hf => h1 (hFB1 b hf), h2, ?_⟩
      rcases h3 with ⟨j, hlj⟩ | h3
      · obtain ⟨id', hj, hl0⟩ := hlive j b hlj
        exact (R.mt id' b (hLh id' b hl0)).2.2
      · exact .inr (by have := R.env.size; omega)
    · exact ⟨h1, h2, (R.mt id b hl0).2.2⟩
  · have inbl : ∀ i v', vals[i]? = some v' → BlkOf v' b → b ∈ bl := fun i v' hi hb => by rw [← hvb]; exact List.mem_flatMap.2 ⟨v', List.mem_of_getElem? hi, mem_blksV.2 hb⟩
    rcases hliveN id b hl with ⟨i, v', rfl, hi, hb⟩ | ⟨hl0, _, _, hnb⟩
    · rcases hliveN id' b hl' with ⟨i', v'', rfl, hi', hb'⟩ | ⟨_, _, _, hnb⟩
      · rw [blks_idx (by rw [hvb]; exact hbn) hi hi' hb hb']
      · exact absurd (inbl i v' hi hb) hnb
    · rcases hliveN id' b hl' with ⟨i', v'', rfl, hi', hb'⟩ | ⟨hl0', _, _, _⟩
      · exact absurd (inbl i' v'' hi' hb') hnb
      · exact R.dis id id' b hl0 hl0'
/-! ### nil slices that are read -/
theorem nil_rep {e : Nat} {t : Ty} {v : Value} (h : ACRep w ρ Fz .nilsl v) : ACRep w ρ Fz (.sl e t []) v := by
  have h : v = .slice none 0 0 := h
  subst h
  exact ⟨none, 0, rfl, Nat.le_refl _, fun i hi => absurd hi (by simp)⟩
theorem nilCs_rep : ∀ {ds : List Ty} {cs : List AC} {vs : List Value}, All2 (ACRep w ρ Fz) cs vs → All2 (ACRep w ρ Fz) (nilCs ds cs) vs
  | [], cs, vs, h => by cases cs <;> exact h
  | d :: ds, [], vs, h => by cases d <;> exact h
  | d :: ds, c :: cs, vs, h => by
    obtain ⟨v, vs, rfl, h1, h2⟩ := all2_cons h
    have ih := nilCs_rep (ds := ds) h2
    cases d with
    | sl e t =>
      cases c with
      | nilsl => exact ⟨nil_rep h1, ih⟩
      | _ => exact ⟨h1, ih⟩
    | _ => exact ⟨h1, ih⟩
theorem nilV_rep {d : Option Ty} {x : TV} {v : Value} (h : TVRep w ρ Fz x v) : TVRep w ρ Fz (nilV d x) v := by
  cases x with
  | tup vs => exact h
  | v a =>
    cases a with
    | one c =>
      simp only [nilV]
      split
      · split
        · rename_i e0 t0 c0
          exact nil_rep (ρ := ρ) (e := e0) (t := t0) (show ACRep w ρ Fz .nilsl v from h)
        · exact h
      · exact h
    | agg cs =>
      simp only [nilV]
      split
      · obtain ⟨cv, rfl, hc⟩ := h
        exact ⟨cv, rfl, nilCs_rep hc⟩
      · exact h
theorem nilVs_rep {tys : List (Nat × Ty)} : ∀ {ts : List Nat} {as : List TV} {vs : List Value}, All2 (TVRep w ρ Fz) as vs → All2 (TVRep w ρ Fz) (nilVs tys ts as) vs
  | [], as, vs, h => by cases as <;> exact h
  | t :: ts, [], vs, h => h
  | t :: ts, a :: as, vs, h => by
    obtain ⟨v, vs, rfl, h1, h2⟩ := all2_cons h
    exact ⟨nilV_rep h1, nilVs_rep h2⟩
theorem plainArgs_rep {f : Nat} {mv : Bool} {as : List TV} {vs : List Value} (h : All2 (TVRep w ρ Fz) as vs) : All2 (TVRep w ρ Fz) (plainArgs E f mv as) vs := by
  unfold plainArgs
  cases (!mv && hasNil (as.flatMap ownOf)) with
  | true => exact nilVs_rep h
  | false => exact h
theorem oIds_nilCs : ∀ {ds : List Ty} {cs : List AC}, oIds cs = [] → oIds (nilCs ds cs) = []
  | [], cs, h => by cases cs <;> exact h
  | d :: ds, [], h => by cases d <;> rfl
  | d :: ds, c :: cs, h => by
    have h' : oIds ([c] ++ cs) = [] := h
    rw [oIds_app] at h'
    obtain ⟨h1, h2⟩ := List.append_eq_nil_iff.1 h'
    have ih := oIds_nilCs (ds := ds) h2
    cases d <;> cases c <;> first | exact ih | (simp [oIds] at h1)
theorem oIds_nilV {d : Option Ty} {x : TV} (h : oIds (ownOf x) = []) : oIds (ownOf (nilV d x)) = [] := by
  cases x with
  | tup vs => exact h
  | v a =>
    cases a with
    | one c =>
      simp only [nilV]
      split
      · split
        · rfl
        · exact h
      · exact h
    | agg cs =>
      simp only [nilV]
      split
      · exact oIds_nilCs (cs := cs) h
      · exact h
theorem oIds_nilVs {tys : List (Nat × Ty)} : ∀ {ts : List Nat} {as : List TV}, oIds (as.flatMap ownOf) = [] → oIds ((nilVs tys ts as).flatMap ownOf) = []
  | [], as, h => by cases as <;> exact h
  | t :: ts, [], h => h
  | t :: ts, a :: as, h => by
    rw [List.flatMap_cons, oIds_app] at h
    obtain ⟨h1, h2⟩ := List.append_eq_nil_iff.1 h
    show oIds ((nilV (assoc tys t) a :: nilVs tys ts as).flatMap ownOf) = []
    rw [List.flatMap_cons, oIds_app, oIds_nilV h1, oIds_nilVs h2]
    rfl
theorem oIds_plainArgs {f : Nat} {mv : Bool} {as : List TV} (h : oIds (as.flatMap ownOf) = []) : oIds ((plainArgs E f mv as).flatMap ownOf) = [] := by
  unfold plainArgs
  cases (!mv && hasNil (as.flatMap ownOf)) with
  | true => exact oIds_nilVs h
  | false => exact h
/-! ### rows that are handed on by their names -/
theorem rowTys_own : ∀ {l : List Nat} {rts : List Ty}, rowTys hr l = some rts → ∀ id ∈ l, ∃ e t xs, RowO (hr id) e t xs
  | [], _, _, id, hi => by cases hi
  | i :: r, rts, h, id, hi => by
    simp only [rowTys] at h
    split at h
    · rename_i e t xs l ho hl
      rcases List.mem_cons.1 hi with rfl | hi
      · exact ⟨e, t, xs, .inl ho⟩
      · exact rowTys_own hl id hi
    · rename_i e t xs l ho hl
      rcases List.mem_cons.1 hi with rfl | hi
      · exact ⟨e, t, xs, .inr ho⟩
      · exact rowTys_own hl id hi
    · cases h
theorem rowPut_spec {w' : World} (Rr : RelM w0 T Fz0 U hr ρ Fz w) : ∀ (l : List Nat) (rts : List Ty) (n : Nat) (x : el (tupTy rts)) (us : List Value) (bl : List Nat), rowTys hr l = some rts → KO w' Fz (tupTy rts) x us bl → All2 (Row1 ρ) l us →
    ∃ vals : List Value, vals.length = l.length ∧ vals.flatMap blksV = bl ∧ (∀ v ∈ vals, v.oneCell' = true) ∧ (∀ (k id : Nat) (v : Value), l[k]? = some id → vals[k]? = some v → ∃ v0, ρ id = some v0 ∧ SameN v0 (some v)) ∧
      (∀ p ∈ rowPut l (cellsOwn (tupTy rts) n x).2.1, ∃ (k id : Nat) (v : Value) (o : Obj), l[k]? = some id ∧ vals[k]? = some v ∧ p = (id, some o) ∧ o.wr = true ∧ ∀ ρ', ObjRep w' ρ' Fz v o) ∧ (∀ id ∈ l, id ∈ (rowPut l (cellsOwn (tupTy rts) n x).2.1).map (·.1))
  | [], rts, n, x, us, bl, h, hk, ha => by
    simp only [rowTys, Option.some.injEq] at h
    subst h
    obtain ⟨_, rfl⟩ : us = [] ∧ bl = [] := hk
    exact ⟨[], rfl, rfl, (by intro p hp; cases hp), (by intro k id v hk; simp at hk), (by intro p hp; cases hp), (by intro id hi; cases hi)⟩
  | i :: r, rts, n, x, us, bl, h, hk, ha => by
    have fin : ∀ {l : List Ty} {t1 : Ty} {o : Obj} {v : Value} {b1 b2 : List Nat} {c2 : List Value} {x1 : el t1} {x2 : el (tupTy l)} {n' : Nat} {q : Nat × Option Obj}, rowTys hr r = some l → KO w' Fz (tupTy l) x2 c2 b2 → All2 (Row1 ρ) r c2 → blksV v = b1 → v.oneCell' = true → (∃ v0, ρ i = some v0 ∧ SameN v0 (some v)) → q.2 = some o → o.wr = true → (∀ ρ', ObjRep w' ρ' Fz v o) →
        ∃ vals : List Value, vals.length = (i :: r).length ∧ vals.flatMap blksV = b1 ++ b2 ∧ (∀ v ∈ vals, v.oneCell' = true) ∧ (∀ (k id : Nat) (v : Value), (i :: r)[k]? = some id → vals[k]? = some v → ∃ v0, ρ id = some v0 ∧ SameN v0 (some v)) ∧
      (∀ p ∈ rowPut (i :: r) (q :: (cellsOwn (tupTy l) n' x2).2.1), ∃ (k id : Nat) (v : Value) (o : Obj), (i :: r)[k]? = some id ∧ vals[k]? = some v ∧ p = (id, some o) ∧ o.wr = true ∧ ∀ ρ', ObjRep w' ρ' Fz v o) ∧ (∀ id ∈ i :: r, id ∈ (rowPut (i :: r) (q :: (cellsOwn (tupTy l) n' x2).2.1)).map (·.1)) := by
      intro l t1 o v b1 b2 c2 x1 x2 n' q hl h2 ha2 hb h1 hs hq hw hrep
      obtain ⟨vals, k1, k2, k3, k4, k5, k6⟩ := rowPut_spec Rr r l n' x2 c2 b2 hl h2 ha2
      have hc : rowPut (i :: r) (q :: (cellsOwn (tupTy l) n' x2).2.1) = (i, q.2) :: rowPut r (cellsOwn (tupTy l) n' x2).2.1 := rfl
      rw [hc]
      refine ⟨v :: vals, by simp [k1], by rw [List.flatMap_cons, hb, k2], fun u hu => ?_, fun k id u e1 e2 => ?_, fun p hp => ?_, fun id hi => ?_⟩
      · rcases List.mem_cons.1 hu with rfl | hu
        · exact h1
        · exact k3 u hu
      · cases k with
        | zero => simp at e1 e2; subst e1; subst e2; exact hs
        | succ k => exact k4 k id u (by simpa using e1) (by simpa using e2)
      · rcases List.mem_cons.1 hp with rfl | hp
        · exact ⟨0, i, v, o, rfl, rfl, by rw [hq], hw, hrep⟩
        · obtain ⟨k, id, u, o', e1, e2, e3, e4⟩ := k5 p hp
          exact ⟨k + 1, id, u, o', by simpa using e1, by simpa using e2, e3, e4⟩
      · rw [List.map_cons]
        rcases List.mem_cons.1 hi with rfl | hi
        · exact List.mem_cons_self
        · exact List.mem_cons_of_mem _ (k6 id hi)
    simp only [rowTys] at h
    split at h
    · rename_i e t xs0 l ho hl
      cases h
      obtain ⟨c1, c2, b1, b2, rfl, rfl, ⟨v, vs, rfl, hown, hrows, rfl⟩, h2⟩ := hk
      obtain ⟨⟨g, hg, hgv, hg1⟩, ha2⟩ := ha
      have hid := Rr.oOwn ho ⟨g, hg, hgv, hg1⟩
      exact fin (t1 := t) (x1 := dflt t) (q := (n, some (.own e t x.1))) (n' := Nat.succ n) hl h2 ha2 (own_blks hown) (own_one hown) ⟨v, hid, .inl rfl⟩ rfl rfl (fun _ => ⟨vs, hown, hrows⟩)
    · rename_i e t xs0 l ho hl
      cases h
      obtain ⟨c1, c2, b1, b2, rfl, rfl, ⟨hd, hn⟩, h2⟩ := hk
      obtain ⟨v, rfl, _⟩ := DO_sl hd
      obtain ⟨⟨g, hg, hgv, hg1⟩, ha2⟩ := ha
      obtain ⟨u, hid, ⟨u', b0, rfl, _⟩, hgv'⟩ := Rr.oRep ho ⟨g, hg, hgv, hg1⟩
      have hgv' : u' = v := hgv'
      subst hgv'
      exact fin (t1 := t) (x1 := dflt t) (q := (n, some (.dp e t x.1))) (n' := Nat.succ n) hl h2 ha2 (ghost_blks _ _) rfl ⟨_, hid, .inr ⟨_, _, _, rfl, rfl⟩⟩ rfl rfl (fun _ => ⟨_, _, rfl, hd, hn⟩)
    · cases h
theorem oIds_ren (l : List Nat) : ∀ (cs : List AC), (∀ id ∈ oIds cs, (indexOf l id).isSome = true) → oIds (cs.map (renC l)) = (oIds cs).map fun id => (indexOf l id).getD 0
  | [], _ => rfl
  | c :: r, hs => by
    have ih := oIds_ren l r fun id hi => hs id (oIds_cons c r id hi)
    cases c with
    | o id =>
      have := hs id (by simp [oIds])
      cases hi : indexOf l id with
      | none => rw [hi] at this; cases this
      | some j => simp only [List.map_cons, renC, renC0, hi, oIds, ih, Option.getD_some]
    | p id off => simp only [List.map_cons, renC, renC0, oIds]; cases indexOf l id <;> simp only [oIds, ih]
    | pe id s i off => simp only [List.map_cons, renC, renC0, oIds]; cases indexOf l id <;> simp only [oIds, ih]
    | _ => simp only [List.map_cons, renC, renC0, oIds, ih]
theorem ownOf_ren (l : List Nat) (x : TV) : ownOf (renV l x) = (ownOf x).map (renC l) := by
  have key : ∀ a : AV, (renA l a).cells = a.cells.map (renC l) := fun a => by cases a <;> rfl
  cases x with
  | v a => exact key a
  | tup vs =>
    show (vs.map (renA l)).flatMap AV.cells = (vs.flatMap AV.cells).map (renC l)
    induction vs with
    | nil => rfl
    | cons a vs ih => simp only [List.map_cons, List.flatMap_cons, List.map_append, ih, key]
theorem ownOf_rens (l : List Nat) (args : List TV) : (args.map (renV l)).flatMap ownOf = (args.flatMap ownOf).map (renC l) := by
  induction args with
  | nil => rfl
  | cons a r ih => simp only [List.map_cons, List.flatMap_cons, List.map_append, ih, ownOf_ren]
theorem indexOf_has : ∀ {l : List Nat} {id : Nat}, id ∈ l → (indexOf l id).isSome = true
  | i :: r, id, h => by
    simp only [indexOf]
    cases hb : Nat.beq i id with
    | true => rfl
    | false =>
      have : id ∈ r := by
        rcases List.mem_cons.1 h with rfl | h
        · rw [Nat.beq_refl] at hb; cases hb
        · exact h
      have ih := indexOf_has this
      cases hr' : indexOf r id with
      | none => rw [hr'] at ih; cases ih
      | some n => rfl
theorem boxOut_nil {w' : World} {ρ0 : Nat → Option Value} : ∀ {l : HpL} {i : Nat} {bs : List Value}, (∀ o ∈ l, notBox o = true) → BoxOut w' ρ0 i l bs → bs = []
  | [], _, _, _, h => h
  | some (.box ty cs) :: r, _, _, hn, _ => by have := hn _ List.mem_cons_self; cases this
  | some (.own _ _ _) :: r, i, bs, hn, h => boxOut_nil (fun o ho => hn o (List.mem_cons_of_mem _ ho)) (show BoxOut w' ρ0 (i + 1) r bs from h)
  | some (.fro _ _ _) :: r, i, bs, hn, h => boxOut_nil (fun o ho => hn o (List.mem_cons_of_mem _ ho)) (show BoxOut w' ρ0 (i + 1) r bs from h)
  | some (.mp _ _ _) :: r, i, bs, hn, h => boxOut_nil (fun o ho => hn o (List.mem_cons_of_mem _ ho)) (show BoxOut w' ρ0 (i + 1) r bs from h)
  | some (.mq _ _ _) :: r, i, bs, hn, h => boxOut_nil (fun o ho => hn o (List.mem_cons_of_mem _ ho)) (show BoxOut w' ρ0 (i + 1) r bs from h)
  | some (.dh _ _ _ _ _ _) :: r, i, bs, hn, h => boxOut_nil (fun o ho => hn o (List.mem_cons_of_mem _ ho)) (show BoxOut w' ρ0 (i + 1) r bs from h)
  | some (.dp _ _ _) :: r, i, bs, hn, h => boxOut_nil (fun o ho => hn o (List.mem_cons_of_mem _ ho)) (show BoxOut w' ρ0 (i + 1) r bs from h)
  | none :: r, i, bs, hn, h => boxOut_nil (fun o ho => hn o (List.mem_cons_of_mem _ ho)) (show BoxOut w' ρ0 (i + 1) r bs from h)
theorem all2_map {α β γ : Type} {Q : γ → β → Prop} (f : α → γ) : ∀ {as : List α} {bs : List β}, All2 Q (as.map f) bs → All2 (fun a b => Q (f a) b) as bs
  | [], [], _ => trivial
  | _ :: _, _ :: _, h => ⟨h.1, all2_map f h.2⟩
  | [], _ :: _, h => h.elim
  | _ :: _, [], h => h.elim
theorem all2_mem {α β : Type} {Q Q' : α → β → Prop} : ∀ {as : List α} {bs : List β}, (∀ a ∈ as, ∀ b, Q a b → Q' a b) → All2 Q as bs → All2 Q' as bs
  | [], [], _, _ => trivial
  | a :: as, b :: bs, hi, h => ⟨hi a List.mem_cons_self b h.1, all2_mem (fun a ha => hi a (List.mem_cons_of_mem _ ha)) h.2⟩
  | [], _ :: _, _, h => h.elim
  | _ :: _, [], _, h => h.elim
theorem argC_id {c : AC} (h : oIds [c] = []) : argC hr c = c := by
  cases c <;> first | rfl | (simp [oIds] at h)
theorem argCs_id : ∀ {cs : List AC}, oIds cs = [] → cs.map (argC hr) = cs
  | [], _ => rfl
  | c :: r, h => by
    have h' : oIds ([c] ++ r) = [] := h
    rw [oIds_app] at h'
    obtain ⟨h1, h2⟩ := List.append_eq_nil_iff.1 h'
    rw [List.map_cons, argC_id h1, argCs_id h2]
theorem argV_id {x : TV} (h : oIds (ownOf x) = []) : argV hr x = x := by
  cases x with
  | tup vs => rfl
  | v a =>
    cases a with
    | one c => show TV.v (.one (argC hr c)) = _; rw [argC_id h]
    | agg cs => show TV.v (.agg (cs.map (argC hr))) = _; rw [argCs_id (cs := cs) h]
theorem oIds_argV {ids : List Nat} : ∀ {args : List TV}, oIds (args.flatMap ownOf) = [] → oIds ((args.map fun v => renV ids (argV hr v)).flatMap ownOf) = []
  | [], _ => rfl
  | x :: r, h => by
    rw [List.flatMap_cons, oIds_app] at h
    obtain ⟨h1, h2⟩ := List.append_eq_nil_iff.1 h
    rw [List.map_cons, List.flatMap_cons, oIds_app, oIds_argV h2, List.append_nil, argV_id h1, ownOf_ren, oIds_ren ids _ (fun id hi => by rw [h1] at hi; cases hi), h1]
    rfl
theorem ref_ok {call : CallF} (hcall : CallOk E call) (R : RelM w0 T Fz0 U h ρ Fz w) (hsub : ∀ id ob, hr id = some ob → h id = some ob) {f : Nat} (hmode : Nat.beq (E.mode f) 1 = true) {args : List TV} {cargs : Array Value} (ha : All2 (TVRep w ρ Fz) args cargs.toList)
    {q : SR} (hq : refSR E call hr f args = some q) (x : el q.τ) (hx : q.comp = some x) :
    Calls E.P f cargs w fun e w' => ∃ v ρ' Fz', e = .returned v ∧ RelM w0 T Fz0 (fun i => U i ∨ i ∈ (q.upd x).map (·.1)) (updF h (q.upd x)) ρ' Fz' w' ∧ Mono w ρ Fz w' ρ' Fz' ∧ TVRep w' ρ' Fz' (q.val x) v := by
  unfold refSR at hq
  cases hts : resTys E f with
  | none => rw [hts] at hq; cases hq
  | some ts =>
  rw [hts] at hq
  simp only at hq
  generalize hids : oIds (args.flatMap ownOf) = ids at hq
  cases hrt : rowTys hr ids with
  | none => rw [hrt] at hq; cases hq
  | some rts =>
  rw [hrt] at hq
  simp only at hq
  replace hq := cond_some hq
  obtain ⟨hcnd, hq⟩ := hq
  cases hq
  simp only [Bool.and_eq_true, Bool.not_eq_true'] at hcnd
  obtain ⟨hnd, ⟨hrd, him⟩, him2⟩ := hcnd
  have hnd := nodupB_nodup hnd
  have hown := rowTys_own hrt
  have Rr : RelM w0 T Fz0 U hr ρ Fz w := R.less hsub
  simp only at x hx ⊢
  let h0 : HpL := ids.map hr
  let ρ0 := rename ρ ids
  have hρ0 : ∀ j id, ids[j]? = some id → ρ0 j = ρ id := fun j id hj => by simp [ρ0, rename, hj]
  have hget : ∀ j o, hpf h0 j = some o → ∃ id, ids[j]? = some id ∧ hr id = some o := by
    intro j o ho
    unfold hpf at ho
    rw [List.getD_eq_getElem?_getD, List.getElem?_map] at ho
    cases hj : ids[j]? with
    | none => rw [hj] at ho; cases ho
    | some id => rw [hj] at ho; exact ⟨id, rfl, by simpa using ho⟩
  have hlive : ∀ j b, Live (hpf h0) ρ0 j b → ∃ id, ids[j]? = some id ∧ Live hr ρ id b := by
    intro j b ⟨o, v, e1, e2, e3, e4⟩
    obtain ⟨id, hj, ho1⟩ := hget j o e1
    exact ⟨id, hj, o, v, ho1, e2, by rw [← hρ0 j id hj]; exact e3, e4⟩
  have Rc : RelM w (Handed h0 ρ0) Fz (fun i => i < h0.length) (hpf h0) ρ0 Fz w := by
    refine ⟨Below.refl _ _, fun _ _ _ => rfl, fun _ h => h, R.fzlt, fun _ h => .inl h, fun j v hj => ?_, fun j o ho => ?_, fun j b hl => ?_, fun j j' b hl hl' => ?_⟩
    · have hj' : (ids[j]?).bind ρ = some v := hj
      cases hi : ids[j]? with
      | none => rw [hi] at hj'; cases hj'
      | some id =>
        rw [hi] at hj'
        refine ⟨?_, (R.dom id v hj').2⟩
        show j < (ids.map _).length
        rw [List.length_map]
        exact (List.getElem?_eq_some_iff.1 hi).1
    · obtain ⟨id, hj, ho1⟩ := hget j o ho
      obtain ⟨v, hv, hrep⟩ := Rr.objs id o ho1
      refine ⟨v, by rw [hρ0 j id hj]; exact hv, ?_⟩
      obtain ⟨e, t, xs, ho2⟩ := hown id (List.mem_of_getElem? hj)
      rw [ho1] at ho2
      rcases ho2 with ho2 | ho2 <;> cases ho2 <;> exact hrep
    · obtain ⟨id, hj, hl0⟩ := hlive j b hl
      exact ⟨(Rr.mt id b hl0).1, (Rr.mt id b hl0).2.1, .inl ⟨j, hl⟩⟩
    · obtain ⟨id, hj, hl0⟩ := hlive j b hl
      obtain ⟨id', hj', hl0'⟩ := hlive j' b hl'
      have := Rr.dis id id' b hl0 hl0'
      subst this
      exact nodup_idx hnd hj hj'
  have hargs : All2 (TVRep w ρ0 Fz) (args.map (renV ids)) cargs.toList := ha.map (S := TVRep w ρ0 Fz) (renV ids) fun a b h => renV_rep (Fz' := Fz) h fun _ h => h
  refine (hcall f _ _ _ x hx ts hts w ρ0 Fz cargs Rc hargs).mono ?_
  rintro e w' ⟨v, rfl, ⟨cs, bv, us, FzB, bl, hpk, hbo, hus, hko, hbn, hbl, hfB, hfB2, hbx⟩, henv, hframe⟩
  have hbv : bv = [] := boxOut_nil (fun o ho => by
    obtain ⟨id, hi, rfl⟩ := List.mem_map.1 ho
    obtain ⟨e, t, xs, h1⟩ := hown id hi
    rcases h1 with h1 | h1 <;> rw [h1] <;> rfl) hbo
  subst hbv
  unfold rsOf at hus
  rw [hmode, cond_true, ownOf_rens, oIds_ren ids _ (fun id hi => indexOf_has (by rw [← hids]; exact hi)), hids] at hus
  have hus2 : All2 (Row1 ρ) ids us := all2_mem (fun id hi u hu => by
    have := indexOf_has hi
    cases hj : indexOf ids id with
    | none => rw [hj] at this; cases this
    | some j =>
      obtain ⟨g, hu, hg, h1⟩ := (hu : ∃ g, ρ0 ((indexOf ids id).getD 0) = some g ∧ gval g = u ∧ u.oneCell' = true)
      rw [hj, Option.getD_some, hρ0 j id (indexOf_some hj)] at hu
      exact ⟨g, hu, hg, h1⟩) (all2_map _ hus)
  obtain ⟨c1, c2, b1, b2, he, rfl, hk1, hk2⟩ := hko
  rw [List.nil_append] at he
  obtain ⟨vs, hpl, hpv⟩ := hpk
  have hcsl : cs.length = c1.length := by rw [packL_len hpl, KO_len hk1]
  obtain ⟨rfl, rfl⟩ := List.append_inj he hcsl
  have hki : KI w' Fz (joinTy ts) x.1 cs := KO_KI hrd (KO_noimm him hk1)
  obtain ⟨vals, hvl, hvb, hv1, hvs, hp1, hp2⟩ := rowPut_spec (w' := w') Rr ids rts 0 x.2 us b2 hrt (KO_noimm him2 hk2) hus2
  generalize hupd : rowPut ids (cellsOwn (tupTy rts) 0 x.2).2.1 = upd at *
  have hLh : ∀ id b, Live hr ρ id b → Live h ρ id b := fun id b ⟨o, v, e1, e2⟩ => ⟨o, v, hsub id o e1, e2⟩
  have hnh : ∀ b, Handed h0 ρ0 b → ∃ id ∈ ids, Live hr ρ id b := fun b ⟨j, hl⟩ => by
    obtain ⟨id, hj, hl0⟩ := hlive j b hl
    exact ⟨id, List.mem_of_getElem? hj, hl0⟩
  let ρ1 : Nat → Option Value := fun i => match indexOf ids i with
    | some k => vals[k]?
    | none => ρ i
  have hρin : ∀ (k id : Nat), ids[k]? = some id → ρ1 id = vals[k]? := by
    intro k id hk
    show (match indexOf ids id with | some k => vals[k]? | none => ρ id) = _
    have h9 := indexOf_has (List.mem_of_getElem? hk)
    cases hj : indexOf ids id with
    | none => rw [hj] at h9; cases h9
    | some j => rw [nodup_idx hnd (indexOf_some hj) hk]
  have hρout : ∀ id, id ∉ ids → ρ1 id = ρ id := by
    intro id hn
    show (match indexOf ids id with | some k => vals[k]? | none => ρ id) = _
    cases hj : indexOf ids id with
    | none => rfl
    | some j => exact absurd (List.mem_of_getElem? (indexOf_some hj)) hn
  have hkv : ∀ id, id ∈ ids → ∃ (k : Nat) (v : Value), ids[k]? = some id ∧ vals[k]? = some v := by
    intro id hi
    obtain ⟨k, hk⟩ := List.mem_iff_getElem?.1 hi
    have hlt : k < vals.length := by rw [hvl]; exact (List.getElem?_eq_some_iff.1 hk).1
    exact ⟨k, vals[k], hk, List.getElem?_eq_getElem hlt⟩
  have m : Mono w ρ Fz w' ρ1 Fz := ⟨fun id v e => by
    by_cases hi : id ∈ ids
    · obtain ⟨k, v1, hk, hv⟩ := hkv id hi
      obtain ⟨v0, e0, hs⟩ := hvs k id v1 hk hv
      rw [hρin k id hk, hv]
      rw [e0] at e; cases e; exact hs
    · rw [hρout id hi]; exact .inl e, fun _ e => e, fun b hb => hframe b (R.fzlt b hb) fun hh => by
    obtain ⟨id, _, hl0⟩ := hnh b hh
    exact (Rr.mt id b hl0).1 hb⟩
  have hcase : ∀ id o, updF h upd id = some o → (∃ (k : Nat) (v : Value), ids[k]? = some id ∧ vals[k]? = some v ∧ o.wr = true ∧ ∀ ρ', ObjRep w' ρ' Fz v o) ∨ (id ∉ ids ∧ h id = some o) := by
    intro id o ho
    rcases updF_cases upd h id with ⟨hn, hh⟩ | ⟨p, hp, h1, h2⟩
    · exact .inr ⟨fun hi => hn (hp2 id hi), by rw [← hh]; exact ho⟩
    · obtain ⟨k, id', v', o', e1, e2, rfl, e3, e4⟩ := hp1 p hp
      cases h1
      rw [ho] at h2
      cases h2
      exact .inl ⟨k, v', e1, e2, e3, e4⟩
  have hLN : ∀ id b, Live (updF h upd) ρ1 id b → (∃ (k : Nat) (v : Value), ids[k]? = some id ∧ vals[k]? = some v ∧ BlkOf v b) ∨ (id ∉ ids ∧ Live h ρ id b) := by
    intro id b ⟨o, v, e1, e2, e3, e4⟩
    rcases hcase id o e1 with ⟨k, v', a1, a2, _⟩ | ⟨a1, a2⟩
    · rw [hρin k id a1, a2] at e3
      cases e3
      exact .inl ⟨k, v, a1, a2, e4⟩
    · rw [hρout id a1] at e3
      exact .inr ⟨a1, o, v, a2, e2, e3, e4⟩
  have inb2 : ∀ (k : Nat) (v : Value) (b : Nat), vals[k]? = some v → BlkOf v b → b ∈ b1 ++ b2 := fun k v b hv hb => by
    rw [← hvb]
    exact List.mem_append_right _ (List.mem_flatMap.2 ⟨v, List.mem_of_getElem? hv, mem_blksV.2 hb⟩)
  have hapart : ∀ id b, id ∉ ids → Live h ρ id b → b ∉ b1 ++ b2 := by
    intro id b hi hl hb
    rcases (hbl b hb).2.2 with hh | hh
    · obtain ⟨id', hi', hl0⟩ := hnh b hh
      have := R.dis id id' b hl (hLh id' b hl0)
      subst this
      exact hi hi'
    · have := (R.mt id b hl).2.1; omega
  refine ⟨v, ρ1, Fz, rfl, ⟨R.env.trans henv, fun b hb hT => ?_, R.fz0, fun b hb => Nat.lt_of_lt_of_le (R.fzlt b hb) henv.size, R.fznew, fun id v e => ?_, fun id o ho => ?_, fun id b hl => ?_, fun id id' b hl hl' => ?_⟩, m, packs_rep ⟨vs, hpl, hpv⟩ (KI_cells ρ1 hki)⟩
  · have hlt : b < w.heap.size := Nat.lt_of_lt_of_le hb R.env.size
    rw [hframe b hlt fun hh => by
      obtain ⟨id, _, hl0⟩ := hnh b hh
      rcases (Rr.mt id b hl0).2.2 with h' | h'
      · exact hT h'
      · omega]
    exact R.frame b hb hT
  · by_cases hi : id ∈ ids
    · obtain ⟨k, v1, hk, hv⟩ := hkv id hi
      obtain ⟨v0, e0, hs⟩ := hvs k id v1 hk hv
      rw [hρin k id hk, hv] at e
      cases e
      exact ⟨.inl (R.dom id v0 e0).1, hv1 _ (List.mem_of_getElem? hv)⟩
    · rw [hρout id hi] at e
      exact ⟨.inl (R.dom id v e).1, (R.dom id v e).2⟩
  · rcases hcase id o ho with ⟨k, v', a1, a2, a3, a4⟩ | ⟨a1, a2⟩
    · exact ⟨v', by rw [hρin k id a1]; exact a2, a4 _⟩
    · obtain ⟨v', hv', hrep⟩ := R.objs id o a2
      refine ⟨v', by rw [hρout id a1]; exact hv', ObjRep_mono m (fun b hw hb => hframe b (R.mt id b ⟨o, v', a2, hw, hv', hb⟩).2.1 fun hh' => ?_) hrep⟩
      obtain ⟨id', hi', hl0⟩ := hnh b hh'
      have := R.dis id id' b ⟨o, v', a2, hw, hv', hb⟩ (hLh id' b hl0)
      subst this
      exact a1 hi'
  · rcases hLN id b hl with ⟨k, v', a1, a2, a3⟩ | ⟨a1, a2⟩
    · obtain ⟨h1, h2, h3⟩ := hbl b (inb2 k v' b a2 a3)
      refine ⟨fun hf => h1 (hfB b hf), h2, ?_⟩
      rcases h3 with hh | hh
      · obtain ⟨id', hi', hl0⟩ := hnh b hh
        exact (Rr.mt id' b hl0).2.2
      · exact .inr (by have := R.env.size; omega)
    · obtain ⟨h1, h2, h3⟩ := R.mt id b a2
      exact ⟨h1, Nat.lt_of_lt_of_le h2 henv.size, h3⟩
  · rcases hLN id b hl with ⟨k, v', a1, a2, a3⟩ | ⟨a1, a2⟩
    · rcases hLN id' b hl' with ⟨k', v'', a1', a2', a3'⟩ | ⟨a1', a2'⟩
      · have := blks_idx (by rw [hvb]; exact (List.nodup_append.1 hbn).2.1) a2 a2' a3 a3'
        subst this
        rw [a1] at a1'; cases a1'; rfl
      · exact absurd (inb2 k v' b a2 a3) (hapart id' b a1' a2')
    · rcases hLN id' b hl' with ⟨k', v'', a1', a2', a3'⟩ | ⟨a1', a2'⟩
      · exact absurd (inb2 k' v'' b a2' a3') (hapart id b a1 a2)
      · exact R.dis id id' b a2 a2'
end
end Go.Sx
