/- A claim's row: what is read as data is told as values; the law's call. Any program. -/
import Derived.Test.YtjgpacfhokpfdaaSx20
import Derived.ChangeArms
import Derived.DataElems
import Derived.ChangeMaps5
import Derived.WideShapes
set_option linter.unusedVariables false
set_option linter.unusedSimpArgs false
namespace Go.Sx
open Go.RowKit Go.ChangeShapes Go.WideShapes

/-! ### the type of what is read -/
section
variable (P : Program)
/-- The types of a struct's fields, one behind the other from that cell on up to that one. -/
def fieldsAt (last : Nat) : List Field → Nat → Option (List Nat)
  | [], o => cond (Nat.beq o last) (some []) none
  | f :: r, o => cond (Nat.beq f.offset o) (match fieldsAt last r (o + P.cellsOf f.type) with | some l => some (f.type :: l) | none => none) none
def mm : Ty → List Nat → Bool
  | .int k, [T] => match P.underlying T with | some (.int k') => decide (k' = k) | _ => false
  | .bool, [T] => match P.underlying T with | some .bool => true | _ => false
  | .str, [T] => match P.underlying T with | some .string => true | _ => false
  | .sl e t, [T] => match P.underlying T with | some (.slice e') => Nat.beq e' e && Nat.beq (P.cellsOf e) (sz t) && Nat.blt 0 (sz t) && mm t [e] | _ => false
  | .pair a b, [T] => match P.underlying T with
    | some (.struct fs) => match fieldsAt P (P.cellsOf T) fs.toList 0 with
      | some (T1 :: T2 :: r) => mm a [T1] && mm b (T2 :: r)
      | _ => false
    | _ => false
  | .pair a b, T1 :: T2 :: r => mm a [T1] && mm b (T2 :: r)
  | .wrap a, [T] => match P.underlying T with
    | some (.struct fs) => match fieldsAt P (P.cellsOf T) fs.toList 0 with
      | some [T1] => mm a [T1]
      | _ => false
    | _ => false
  | _, _ => false
end
/-- What Go's values are always. -/
def Good : (t : Ty) → el t → Prop
  | .int k, n => (Lit.int k n).wf = true
  | .bool, _ => True
  | .str, s => ByteArray.size s ≤ maxLen
  | .sl _ t, (xs : List (el t)) => xs.length ≤ maxLen ∧ ∀ x ∈ xs, Good t x
  | .ow _ t, xs => True
  | .pair a b, x => Good a x.1 ∧ Good b x.2
  | .wrap a, x => Good a x
  | .unit, _ => True
  | .fnc _, _ => True
  | .any, _ => True
  | .lk _ _, _ => True
  | .fp _, _ => True
  | .mq _ _, _ => True
  | .om _ _, _ => True
  | .dw _ _, _ => True
  | .bx _ _, _ => True
section
variable {H : Type} {enc : TypeId × Value → H} {P : Program} {w : World}
def TrodB (enc : TypeId × Value → H) (P : Program) (w : World) (T : Nat) (cs : List Value) : Prop := ∃ fuel y, DataW.trod enc P w 0 (fun _ => true) true fuel T cs = some y
def Trods (enc : TypeId × Value → H) (P : Program) (w : World) : List Nat → List Value → Prop
  | [], cs => cs = []
  | T :: r, cs => ∃ c1 c2, cs = c1 ++ c2 ∧ TrodB enc P w T c1 ∧ Trods enc P w r c2
theorem Trods.one {T : Nat} {cs : List Value} (h : Trods enc P w [T] cs) : TrodB enc P w T cs := by
  obtain ⟨c1, c2, rfl, h1, h2⟩ := h
  have : c2 = [] := h2
  subst this
  rw [List.append_nil]; exact h1
theorem fieldsAt_trods {last : Nat} {cs : List Value} (hl : cs.length = last) : ∀ (fs : List Field) (o : Nat) (Ts : List Nat), fieldsAt P last fs o = some Ts → (∀ f ∈ fs, TrodB enc P w f.type ((cs.drop f.offset).take (P.cellsOf f.type))) → Trods enc P w Ts (cs.drop o)
  | [], o, Ts, h, _ => by
    simp only [fieldsAt] at h
    obtain ⟨h1, h2⟩ := cond_some h
    cases h2
    have := Nat.eq_of_beq_eq_true h1
    show cs.drop o = []
    rw [List.drop_eq_nil_iff]; omega
  | f :: r, o, Ts, h, hf => by
    simp only [fieldsAt] at h
    obtain ⟨h1, h2⟩ := cond_some h
    have ho := Nat.eq_of_beq_eq_true h1
    cases hr : fieldsAt P last r (o + P.cellsOf f.type) with
    | none => rw [hr] at h2; cases h2
    | some l =>
      rw [hr] at h2; cases h2
      have h3 := fieldsAt_trods hl r _ l hr fun g hg => hf g (List.mem_cons_of_mem _ hg)
      have h4 := hf f List.mem_cons_self
      rw [ho] at h4
      refine ⟨_, _, (List.take_append_drop (P.cellsOf f.type) (cs.drop o)).symm, h4, ?_⟩
      rw [List.drop_drop]; exact h3
theorem struct_trods {T : Nat} {fs : Array Field} (hu : P.underlying T = some (.struct fs)) {Ts : List Nat} (hf : fieldsAt P (P.cellsOf T) fs.toList 0 = some Ts) {cs : List Value} (h : TrodB enc P w T cs) : Trods enc P w Ts cs := by
  obtain ⟨fuel, y, h⟩ := h
  obtain ⟨xs, n, _, _, hl, hn, hg⟩ := DataW.trod_struct hu h
  have := fieldsAt_trods (enc := enc) (w := w) hl fs.toList 0 Ts hf fun f hm => by
    obtain ⟨i, hi⟩ := List.getElem?_of_mem hm
    have hi' : fs[i]? = some f := by simpa using hi
    have h1 := hg i f hi'
    have hlt : i < xs.length := by rw [hn]; exact (Array.getElem?_eq_some_iff.1 hi').1
    rw [List.getElem?_eq_getElem hlt] at h1
    exact ⟨n, _, h1⟩
  simpa using this
theorem list_pick {α : Type} (p : Nat → α → Prop) : ∀ n : Nat, (∀ i, i < n → ∃ x, p i x) → ∃ xs : List α, xs.length = n ∧ ∀ i (hi : i < xs.length), p i xs[i]
  | 0, _ => ⟨[], rfl, fun i hi => by simp at hi⟩
  | n + 1, h => by
    obtain ⟨xs, hl, hx⟩ := list_pick p n (fun i hi => h i (by omega))
    obtain ⟨x, hp⟩ := h n (by omega)
    refine ⟨xs ++ [x], by simp [hl], fun i hi => ?_⟩
    rcases Nat.lt_or_ge i xs.length with hi' | hi'
    · rw [List.getElem_append_left hi']; exact hx i hi'
    · have : i = n := by simp at hi; omega
      subst this
      rw [List.getElem_append_right hi']
      simpa using hp
theorem rd_KI : ∀ (t : Ty) (Ts : List Nat) (cs : List Value), mm P t Ts = true → Trods enc P w Ts cs → ∃ x : el t, KI w (fun b => b < w.heap.size) t x cs ∧ Good t x
  | .int k, [T], cs, hm, h => by
    simp only [mm] at hm
    split at hm
    · rename_i k' hu
      have := of_decide_eq_true hm; subst this
      obtain ⟨fuel, y, h⟩ := h.one
      obtain ⟨n, rfl, _, hw⟩ := DataW.trod_int hu h
      exact ⟨n, rfl, hw⟩
    · cases hm
  | .bool, [T], cs, hm, h => by
    simp only [mm] at hm
    split at hm
    · rename_i hu
      obtain ⟨fuel, y, h⟩ := h.one
      obtain ⟨n, rfl, _⟩ := DataW.trod_bool hu h
      exact ⟨n, rfl, trivial⟩
    · cases hm
  | .str, [T], cs, hm, h => by
    simp only [mm] at hm
    split at hm
    · rename_i hu
      obtain ⟨fuel, y, h⟩ := h.one
      obtain ⟨n, rfl, _, hs⟩ := DataW.trod_string hu h
      exact ⟨n, rfl, hs⟩
    · cases hm
  | .sl e t, [T], cs, hm, h => by
    simp only [mm] at hm
    split at hm
    · rename_i e' hu
      simp only [Bool.and_eq_true] at hm
      obtain ⟨⟨⟨h1, h2⟩, h3⟩, h4⟩ := hm
      have h1 := Nat.eq_of_beq_eq_true h1
      have h2 := Nat.eq_of_beq_eq_true h2
      have h3 : 0 < sz t := by simpa [Nat.blt_eq] using h3
      subst h1
      obtain ⟨fuel, y, h⟩ := h.one
      rcases DataW.trod_slice hu h with ⟨rfl, _⟩ | ⟨a, len, cap, elems, rest, n, _, rfl, _, _, hl, hc, hel, hget, _⟩
      · exact ⟨([] : List (el t)), ⟨none, 0, rfl, Nat.le_refl _, fun i hi => absurd hi (by simp)⟩, by show (0 : Nat) ≤ maxLen; omega, (by intro x hx; cases hx)⟩
      · have hx : ∀ i, i < len → ∃ x : el t, (∃ g o row, (some a = some (⟨g, o, none⟩ : Addr)) ∧ g < w.heap.size ∧ (∀ j u, row[j]? = some u → w.cell? ⟨g, o + i * sz t + j, none⟩ = some u) ∧ KI w (fun b => b < w.heap.size) t x row) ∧ Good t x := by
          intro i hi
          have h1 := hget i hi
          rw [List.getElem?_eq_getElem (by omega : i < elems.length)] at h1
          obtain ⟨c, hcell, htr⟩ := Option.bind_eq_some_iff.1 h1
          obtain ⟨x, hK, hG⟩ := rd_KI t [e'] c h4 ⟨c, [], by simp, ⟨n, _, htr⟩, rfl⟩
          unfold World.cells? at hcell
          rw [if_pos (Nat.zero_le _), h2] at hcell
          have hlen := mapM_some_length hcell
          have hcl : c.length = sz t := KI_len hK
          have hat : ∀ j u, c[j]? = some u → w.cell? ((a.add (i * sz t)).add j) = some u := by
            intro j u hj
            have hjl := (List.getElem?_eq_some_iff.1 hj).1
            have := mapM_some_get hcell j j (by rw [List.getElem?_range]; omega)
            rw [this]; exact hj
          obtain ⟨u0, hu0⟩ : ∃ u, c[0]? = some u := ⟨_, List.getElem?_eq_getElem (by omega : 0 < c.length)⟩
          have h0 := hat 0 u0 hu0
          rw [Addr.add_add, Nat.add_zero] at h0
          -- the address has no spot where it is looked at
          have hsp0 : i = 0 → a.spot = none := by
            intro hi0
            subst hi0
            have := World.cell?_spot h0
            simpa [Addr.add] using this
          have hsp : a.spot = none := by
            by_cases hi0 : i = 0
            · exact hsp0 hi0
            · have h1 := hget 0 (by omega)
              rw [List.getElem?_eq_getElem (by omega : 0 < elems.length)] at h1
              obtain ⟨c', hcell', _⟩ := Option.bind_eq_some_iff.1 h1
              unfold World.cells? at hcell'
              rw [if_pos (Nat.zero_le _), h2] at hcell'
              have hlen' := mapM_some_length hcell'
              have := mapM_some_get hcell' 0 0 (by rw [List.getElem?_range]; omega)
              have hc0 : c'[0]? ≠ none := by rw [ne_eq, List.getElem?_eq_none_iff]; simp at hlen'; omega
              cases hcc : c'[0]? with
              | none => exact absurd hcc hc0
              | some u =>
                rw [hcc] at this
                have := World.cell?_spot this
                simpa [Addr.add] using this
          obtain ⟨g, o, sp⟩ := a
          simp only at hsp
          subst hsp
          have hlit : ∀ j, ((⟨g, o, none⟩ : Addr).add (i * sz t)).add j = ⟨g, o + i * sz t + j, none⟩ := fun j => by
            rw [Addr.add_add, Addr.add_lit, Nat.add_assoc]
          refine ⟨x, ⟨g, o, c, rfl, ?_, fun j u hj => ?_, hK⟩, hG⟩
          · have h0' := hat 0 u0 hu0
            rw [hlit] at h0'
            unfold World.cell? at h0'
            rcases Nat.lt_or_ge g w.heap.size with h' | h'
            · exact h'
            · simp only at h0'
              rw [Array.getElem?_eq_none h'] at h0'; cases h0'
          · rw [← hlit]; exact hat j u hj
        obtain ⟨xs, hxl, hxs⟩ := list_pick _ len hx
        refine ⟨xs, ⟨some a, cap, by rw [hxl], by omega, fun i hi => (hxs i hi).1⟩, ?_, fun x hx' => ?_⟩
        · show xs.length ≤ maxLen; omega
        · obtain ⟨i, hi⟩ := List.getElem?_of_mem hx'
          obtain ⟨hlt, he⟩ := List.getElem?_eq_some_iff.1 hi
          rw [← he]; exact (hxs i hlt).2
    · cases hm
  | .pair a b, [T], cs, hm, h => by
    simp only [mm] at hm
    split at hm
    · rename_i fs hu
      split at hm
      · rename_i T1 T2 r hf
        simp only [Bool.and_eq_true] at hm
        obtain ⟨c1, c2, rfl, h1, h2⟩ := struct_trods hu hf h.one
        obtain ⟨x, hx, gx⟩ := rd_KI a [T1] c1 hm.1 ⟨c1, [], by simp, h1, rfl⟩
        obtain ⟨y, hy, gy⟩ := rd_KI b (T2 :: r) c2 hm.2 h2
        exact ⟨(x, y), ⟨c1, c2, rfl, hx, hy⟩, gx, gy⟩
      · cases hm
    · cases hm
  | .pair a b, T1 :: T2 :: r, cs, hm, h => by
    simp only [mm, Bool.and_eq_true] at hm
    obtain ⟨c1, c2, rfl, h1, h2⟩ := h
    obtain ⟨x, hx, gx⟩ := rd_KI a [T1] c1 hm.1 ⟨c1, [], by simp, h1, rfl⟩
    obtain ⟨y, hy, gy⟩ := rd_KI b (T2 :: r) c2 hm.2 h2
    exact ⟨(x, y), ⟨c1, c2, rfl, hx, hy⟩, gx, gy⟩
  | .wrap a, [T], cs, hm, h => by
    simp only [mm] at hm
    split at hm
    · rename_i fs hu
      split at hm
      · rename_i T1 hf
        have h1 := (struct_trods hu hf h.one).one
        exact rd_KI a [T1] cs hm ⟨cs, [], by simp, h1, rfl⟩
      · cases hm
    · cases hm
  | .unit, [_], _, hm, _ | .ow _ _, [_], _, hm, _ | .fnc _, [_], _, hm, _ | .bx _ _, [_], _, hm, _ => by simp [mm] at hm
  | .unit, _ :: _ :: _, _, hm, _ | .ow _ _, _ :: _ :: _, _, hm, _ | .fnc _, _ :: _ :: _, _, hm, _ | .bx _ _, _ :: _ :: _, _, hm, _ | .int _, _ :: _ :: _, _, hm, _ | .bool, _ :: _ :: _, _, hm, _ | .str, _ :: _ :: _, _, hm, _ | .sl _ _, _ :: _ :: _, _, hm, _ | .wrap _, _ :: _ :: _, _, hm, _ => by simp [mm] at hm
  | .unit, [], _, hm, _ | .ow _ _, [], _, hm, _ | .fnc _, [], _, hm, _ | .bx _ _, [], _, hm, _ | .int _, [], _, hm, _ | .bool, [], _, hm, _ | .str, [], _, hm, _ | .sl _ _, [], _, hm, _ | .wrap _, [], _, hm, _ | .pair _ _, [], _, hm, _ => by simp [mm] at hm
/-- An argument, as the plain machine has it. -/
theorem arg_ok {t : Ty} {T : Nat} {v : Value} {r : Reach} {b0 : Nat} {d : DataW H} {ps : List MemPlace} (hm : mm P t [T] = true) (hval : Value.okWide P w r b0 T v) (hd : DataW.Trod enc P w 0 (fun _ => true) true T v d ps) :
    ∃ x : el t, TVRep w (fun _ => none) (fun b => b < w.heap.size) (inp t x) v ∧ Good t x := by
  obtain ⟨fuel, hf⟩ := hd
  obtain ⟨x, hk, hg⟩ := rd_KI (enc := enc) (w := w) t [T] v.cells.toList hm ⟨v.cells.toList, [], by simp, ⟨fuel, _, hf⟩, rfl⟩
  refine ⟨x, ?_, hg⟩
  have one : ∀ c, isAg t = false → v.cells.toList = [v] → cells t x = [c] → TVRep w (fun _ => none) (fun b => b < w.heap.size) (inp t x) v := by
    intro c hag hv hc
    have h1 := KI_cells (fun _ => none) hk
    rw [hv, hc] at h1
    unfold inp
    rw [hag, hc]
    exact h1.1
  have agg : ∀ cs, isAg t = true → v = .agg cs → TVRep w (fun _ => none) (fun b => b < w.heap.size) (inp t x) v := by
    intro cs hag hv
    subst hv
    unfold inp
    rw [hag]
    exact ⟨cs, rfl, KI_cells (fun _ => none) hk⟩
  cases t with
  | int k =>
    simp only [mm] at hm
    split at hm
    · rename_i k' hu
      obtain ⟨n, rfl⟩ := okWide_int hu hval
      exact one _ rfl rfl rfl
    · cases hm
  | bool =>
    simp only [mm] at hm
    split at hm
    · rename_i hu
      obtain ⟨n, rfl⟩ := okWide_bool hu hval
      exact one _ rfl rfl rfl
    · cases hm
  | str =>
    simp only [mm] at hm
    split at hm
    · rename_i hu
      obtain ⟨n, rfl⟩ := okWide_string hu hval
      exact one _ rfl rfl rfl
    · cases hm
  | sl e t =>
    simp only [mm] at hm
    split at hm
    · rename_i e' hu
      obtain ⟨a, l, c, rfl⟩ := okWide_slice hu hval
      exact one _ rfl rfl rfl
    · cases hm
  | pair a b =>
    simp only [mm] at hm
    split at hm
    · rename_i fs hu
      obtain ⟨cs, rfl, _⟩ := okWide_struct hu hval
      exact agg cs rfl rfl
    · cases hm
  | wrap a =>
    simp only [mm] at hm
    split at hm
    · rename_i fs hu
      obtain ⟨cs, rfl, _⟩ := okWide_struct hu hval
      exact agg cs rfl rfl
    · cases hm
  | unit => simp [mm] at hm
  | ow _ _ => simp [mm] at hm
  | fnc _ => simp [mm] at hm
  | any => simp [mm] at hm
  | lk _ _ => simp [mm] at hm
  | fp _ => simp [mm] at hm
  | mq _ _ => simp [mm] at hm
  | om _ _ => simp [mm] at hm
  | dw _ _ => simp [mm] at hm
  | bx _ _ => simp [mm] at hm
end

/-! ### the law's call -/
theorem law_calls {E : Env} {call : CallF} (hcall : CallOk E call) {f : Nat} {args : List TV} (hx : call f .bool args [] = some true) (hts : resTys E f = some [.bool]) {w : World} {cargs : Array Value} (ha : All2 (TVRep w (fun _ => none) (fun b => b < w.heap.size)) args cargs.toList) :
    Calls E.P f cargs w fun e w' => e = .returned (.bool true) ∧ Below w.heap.size w w' := by
  have Rm : RelM w (Handed [] (fun _ => none)) (fun b => b < w.heap.size) (fun i => i < ([] : HpL).length) (hpf []) (fun _ => none) (fun b => b < w.heap.size) w := by
    refine ⟨Below.refl 0 w, fun _ _ _ => rfl, fun _ h => h, fun _ h => h, fun _ h => .inl h, fun id v e => (by cases e), fun id o ho => ?_, fun id b ⟨o, v, h1, h2, h3, _⟩ => (by cases h3), fun id id' b ⟨o, v, h1, h2, h3, _⟩ => (by cases h3)⟩
    simp [hpf] at ho
  refine (hcall f .bool args [] true hx [.bool] hts w (fun _ => none) _ cargs Rm ha).mono ?_
  rintro e w' ⟨v, rfl, ⟨⟨cs, bs, us0, Fz, bl, hp, hb, hu0, hk, _⟩, henv, hfr⟩⟩
  obtain ⟨us, hp, rfl⟩ := hp
  have hb : bs = [] := hb
  subst hb
  have hu1 : us0 = [] := by
    cases us0 with
    | nil => rfl
    | cons u us1 =>
      cases hr : rsOf E f args with
      | nil => rw [hr] at hu0; exact hu0.elim
      | cons i r => rw [hr] at hu0; obtain ⟨g, h9, _⟩ := hu0.1; cases h9
  subst hu1
  have hk : KI w' Fz .bool true (cs ++ []) := hk.1
  rw [List.append_nil] at hk
  have hk : cs = [.bool true] := hk
  subst hk
  refine ⟨?_, henv.os, henv.tape, henv.output, henv.size, fun k hk => hfr k hk ?_⟩
  · cases us with
    | nil => exact hp.elim
    | cons u us =>
      cases us with
      | cons => obtain ⟨_, _, _, _, _, h2⟩ := hp; exact h2.elim
      | nil =>
        obtain ⟨c1, c2, e, hl, h1, h2⟩ := hp
        have h2 : c2 = [] := h2
        subst h2
        rw [List.append_nil] at e
        subst e
        rcases h1 with ⟨h, _⟩ | ⟨_, h⟩
        · cases h
        · cases h; rfl
  · rintro ⟨id, o, v, h1, h2, h3, _⟩
    cases h3

/-! ### the tables, looked at once -/
def nilS : Value → Bool
  | .slice none 0 0 => true
  | _ => false
theorem nilS_ok {v : Value} (h : nilS v = true) : v = .slice none 0 0 := by
  unfold nilS at h
  split at h
  · rfl
  · cases h
def zeroT : Ty → List Value → Option (List Value)
  | .int k, .int k' n :: r => cond (decide (k' = k) && decide (n = 0)) (some r) none
  | .bool, .bool b :: r => cond b none (some r)
  | .str, .string s :: r => cond (Nat.beq s.size 0) (some r) none
  | .sl _ _, v :: r => cond (nilS v) (some r) none
  | .pair a b, cs => match zeroT a cs with | some r => zeroT b r | none => none
  | .wrap a, cs => zeroT a cs
  | .unit, cs => some cs
  | _, _ => none
theorem zeroT_ok (w : World) (Fz : Nat → Prop) : ∀ (t : Ty) (cs r : List Value), zeroT t cs = some r → ∃ c, cs = c ++ r ∧ KI w Fz t (dflt t) c := by
  intro t
  induction t with
  | int k =>
    intro cs r h
    cases cs with
    | nil => cases h
    | cons c cs =>
      cases c <;> simp only [zeroT] at h <;> (try (cases h; done))
      obtain ⟨h1, h2⟩ := cond_some h
      cases h2
      simp only [Bool.and_eq_true, decide_eq_true_eq] at h1
      obtain ⟨rfl, rfl⟩ := h1
      exact ⟨[_], rfl, rfl⟩
  | bool =>
    intro cs r h
    cases cs with
    | nil => cases h
    | cons c cs =>
      cases c <;> simp only [zeroT] at h <;> (try (cases h; done))
      obtain ⟨h1, h2⟩ := cond_some' h
      cases h2
      subst h1
      exact ⟨[_], rfl, rfl⟩
  | str =>
    intro cs r h
    cases cs with
    | nil => cases h
    | cons c cs =>
      cases c <;> simp only [zeroT] at h <;> (try (cases h; done))
      rename_i s
      obtain ⟨h1, h2⟩ := cond_some h
      cases h2
      have h1 := Nat.eq_of_beq_eq_true h1
      have : s = ByteArray.empty := ByteArray.size_eq_zero_iff.1 h1
      subst this
      exact ⟨[_], rfl, rfl⟩
  | sl e t _ =>
    intro cs r h
    cases cs with
    | nil => cases h
    | cons c cs =>
      obtain ⟨h1, h2⟩ := cond_some h
      cases h2
      have := nilS_ok h1
      subst this
      exact ⟨[_], rfl, none, 0, rfl, Nat.le_refl _, fun i hi => absurd hi (by simp [dflt])⟩
  | ow e t _ => intro cs r h; cases cs <;> simp [zeroT] at h
  | fnc f => intro cs r h; cases cs <;> simp [zeroT] at h
  | any => intro cs r h; cases cs <;> simp [zeroT] at h
  | lk L t _ => intro cs r h; cases cs <;> simp [zeroT] at h
  | fp t _ => intro cs r h; cases cs <;> simp [zeroT] at h
  | mq T t _ => intro cs r h; cases cs <;> simp [zeroT] at h
  | om T t _ => intro cs r h; cases cs <;> simp [zeroT] at h
  | dw e t _ => intro cs r h; cases cs <;> simp [zeroT] at h
  | bx ty t _ => intro cs r h; cases cs <;> simp [zeroT] at h
  | unit => intro cs r h; simp only [zeroT, Option.some.injEq] at h; exact ⟨[], by simp [h], rfl⟩
  | wrap a ih => intro cs r h; exact ih cs r h
  | pair a b iha ihb =>
    intro cs r h
    simp only [zeroT] at h
    cases ha : zeroT a cs with
    | none => rw [ha] at h; cases h
    | some m =>
      rw [ha] at h
      obtain ⟨c1, rfl, h1⟩ := iha cs m ha
      obtain ⟨c2, rfl, h2⟩ := ihb m r h
      exact ⟨c1 ++ c2, by simp, c1, c2, rfl, h1, h2⟩
def tyB (P : Program) (e : TypeId) (t : Ty) : Bool := match P.info? e with
  | some i => match i.zero with
    | some z => Nat.beq (P.cellsOf e) (sz t) && Nat.blt 0 (sz t) && Nat.blt 0 (P.bytesOf e) && rdo t && (match zeroT t z.cells.toList with | some [] => true | _ => false)
    | none => false
  | none => false
def tysB (P : Program) : List (Nat × Ty) → Bool
  | [] => true
  | p :: r => tyB P p.1 p.2 && tysB P r
theorem keyN_some {P : Program} {kt n : Nat} (h : keyN P kt = some n) : ∃ e, P.underlying kt = some (.array n e) ∧ P.underlying e = some (.int .i64) ∧ P.cellsOf kt = n ∧ P.cellsOf e = 1 ∧ kt < P.types.size := by
  unfold keyN at h
  split at h
  · rename_i n' e hu
    split at h
    · rename_i he
      obtain ⟨hc, h⟩ := cond_some h
      cases h
      simp only [Bool.and_eq_true] at hc
      exact ⟨e, hu, he, Nat.eq_of_beq_eq_true hc.1.1, Nat.eq_of_beq_eq_true hc.1.2, Nat.lt_of_succ_le (by simpa [Nat.blt] using hc.2)⟩
    · cases h
  · cases h
theorem mapM_all {α β : Type} {f : α → Option β} : ∀ {l : List α}, (∀ x ∈ l, ∃ y, f x = some y) → ∃ ys, l.mapM f = some ys
  | [], _ => ⟨[], rfl⟩
  | x :: l, h => by
    obtain ⟨y, hy⟩ := h x List.mem_cons_self
    obtain ⟨ys, hys⟩ := mapM_all (l := l) fun z hz => h z (List.mem_cons_of_mem _ hz)
    exact ⟨y :: ys, by simp [List.mapM_cons, hy, hys]⟩
theorem keyN_ok {P : Program} (hl : laidOutB P = true) {kt n : Nat} (h : keyN P kt = some n) : MapK P kt n := by
  obtain ⟨e, hu, he, hc, hce, hsz⟩ := keyN_some h
  have hk2 : P.keyTypeAt 2 kt = true := by simp [Program.keyTypeAt, hu, he]
  refine ⟨Maps.Keyed.of_law (deep_law_laid hl (m := 2) (by decide) hsz hk2 (by rw [hu])), fun ns hn hw => ?_⟩
  have hkt : P.keyType kt = true := by
    unfold Program.keyType
    obtain ⟨m, hm⟩ : ∃ m, P.types.size = m + 1 := ⟨P.types.size - 1, by omega⟩
    rw [hm]
    simp [Program.keyTypeAt, hu, he]
  have hlen : (ns.map (Value.int .i64)).length = n := by rw [List.length_map]; exact hn
  have hform : (keyV ns).formed P kt = true := by
    unfold keyV Value.formed
    simp only [hu]
    simp [hc, hn]
  unfold keyOf
  rw [hu]
  simp only [hkt, hform, Bool.and_self, if_true]
  have hcells : (keyV ns).cells.toList = ns.map (Value.int .i64) := by simp [keyV, Value.cells]
  rw [hcells]
  have key : ∃ ls, P.keyLits (P.types.size + 1) kt (ns.map (Value.int .i64)) = some ls := by
    unfold Program.keyLits
    rw [hu]
    simp only [hc, hlen, if_true, hce, Nat.mul_one]
    obtain ⟨ys, hys⟩ := mapM_all (f := fun i => P.keyLits P.types.size e (((ns.map (Value.int .i64)).drop i).take 1)) (l := List.range n) fun j hj => by
      have hj : j < n := List.mem_range.1 hj
      have hj2 : j < ns.length := by omega
      obtain ⟨m, hm⟩ : ∃ m, P.types.size = m + 1 := ⟨P.types.size - 1, by omega⟩
      have h1 : ((ns.map (Value.int .i64)).drop j).take 1 = [.int .i64 ns[j]] := by
        rw [List.drop_eq_getElem_cons (by rw [List.length_map]; exact hj2)]
        simp
      rw [h1, hm]
      unfold Program.keyLits
      rw [he]
      simp only [hw _ (List.getElem_mem hj2), and_self, if_true]
      exact ⟨_, rfl⟩
    rw [hys]
    exact ⟨_, rfl⟩
  obtain ⟨ls, hls⟩ := key
  rw [hls]
  exact ⟨_, rfl⟩
theorem tyB_ok {P : Program} (hl : laidOutB P = true) {e : TypeId} {t : Ty} (h : tyB P e t = true) : TyOk P e t := by
  unfold tyB at h
  split at h
  · rename_i i hi
    split at h
    · rename_i z hz
      simp only [Bool.and_eq_true] at h
      obtain ⟨⟨⟨⟨h1, h2⟩, h3⟩, h4⟩, h5⟩ := h
      refine ⟨Nat.eq_of_beq_eq_true h1, by simpa [Nat.blt_eq] using h2, by simpa [Nat.blt_eq] using h3, h4, ⟨i, z, hi, hz, fun w Fz => ?_⟩, fun n hn => keyN_ok hl hn⟩
      split at h5
      · rename_i hzz
        obtain ⟨c, hc, hk⟩ := zeroT_ok w Fz t _ _ hzz
        rw [List.append_nil] at hc
        rw [hc]; exact hk
      · cases h5
    · cases h
  · cases h
theorem envOk {E : Env} (hl : laidOutB E.P = true) (h : tysB E.P E.tys = true) : EnvOk E := by
  intro e t ha
  have key : ∀ (l : List (Nat × Ty)), tysB E.P l = true → assoc l e = some t → TyOk E.P e t := by
    intro l
    induction l with
    | nil => intro _ ha; cases ha
    | cons p r ih =>
      intro hb ha'
      simp only [tysB, Bool.and_eq_true] at hb
      obtain ⟨k, v⟩ := p
      simp only [assoc] at ha'
      cases hk : Nat.beq k e with
      | true =>
        rw [hk] at ha'
        simp only [cond_true, Option.some.injEq] at ha'
        have := Nat.eq_of_beq_eq_true hk
        subst this; subst ha'
        exact tyB_ok hl hb.1
      | false =>
        rw [hk] at ha'
        exact ih hb.2 ha'
  exact key E.tys h ha
def fnsB (P : Program) : Bool := P.funcs.all fun fn => !(fn.name == "runtime.NumGoroutine")
theorem fnsOk {E : Env} (h : fnsB E.P = true) : FnsOk E := by
  intro f fn hf
  have := Array.all_eq_true.1 h f (Array.getElem?_eq_some_iff.1 hf).1
  rw [(Array.getElem?_eq_some_iff.1 hf).2] at this
  simpa using this
theorem extOk {E : Env} (h : ∀ f, E.ext f = none) : ExtOk E := fun f g hg => by rw [h f] at hg; cases hg
end Go.Sx
