/- Regions that draw their order: in every order the same. Any program. -/
import Derived.Test.YtjgpacfhokpfdaaSx17
set_option linter.unusedVariables false
set_option linter.unusedSimpArgs false
namespace Go.Sx
open Go.RowKit

def nf : List Bool → Nat
  | [] => 0
  | true :: r => nf r
  | false :: r => nf r + 1
theorem nf_set : ∀ {l : List Bool} {i : Nat}, l[i]? = some false → nf (l.set i true) + 1 = nf l
  | [], _, h => by cases h
  | b :: r, 0, h => by
    simp only [List.getElem?_cons_zero, Option.some.injEq] at h
    subst h; rfl
  | b :: r, i + 1, h => by
    have := nf_set (l := r) (i := i) (by simpa using h)
    cases b with
    | true => exact this
    | false => simp only [List.set_cons_succ, nf]; omega
theorem nf_zero : ∀ {l : List Bool} {i : Nat} {b : Bool}, nf l = 0 → l[i]? = some b → b = true
  | [], _, _, _, h => by cases h
  | true :: r, 0, b, _, h => by cases h; rfl
  | true :: r, i + 1, b, hz, h => nf_zero (l := r) hz (by simpa using h)
  | false :: r, _, _, hz, _ => by simp [nf] at hz
theorem nf_rep : ∀ n, nf (List.replicate n false) = n
  | 0 => rfl
  | n + 1 => by rw [List.replicate_succ, nf, nf_rep n]
theorem ov_add {X : Type} {D D' : Nat → Bool} {ps : List (Nat → Option X)} {f : Nat → X} {j : Nat} {p : Nat → Option X} (hp : ps[j]? = some p) (hD' : ∀ k, D' k = if k = j then true else D k)
    (hl : ∀ t x, p t = some x → ∀ (k : Nat) q, j < k → ps[k]? = some q → D k = true → q t = none) : ov D' ps 0 f = ap p (ov D ps 0 f) := by
  funext t
  cases ht : p t with
  | some x =>
    show _ = (p t).getD _
    rw [ht, Option.getD_some]
    refine ov_last ps 0 f j p hp ht (by rw [hD']; simp) fun k q hk hq hd => hl t x ht k q hk hq ?_
    rw [hD', Nat.zero_add] at hd
    rwa [if_neg (by omega)] at hd
  | none =>
    show _ = (p t).getD _
    rw [ht, Option.getD_none]
    refine ov_congr ps 0 f f (fun k q hk hne => ?_) rfl
    rw [hD', Nat.zero_add] at hne
    by_cases hkj : k = j
    · subst hkj; rw [hp] at hk; cases hk; exact ht
    · rw [if_neg hkj] at hne; exact absurd rfl hne

section
variable {E : Env} {w0 w w' : World} {T Fz0 Fz Fz' : Nat → Prop} {h h' : HpL} {ρ ρ' ρ0 : Nat → Option Value} {a : Act} {s s' : Tm} {call : CallF} {ops : Array Oper} {M : List Nat} {es : List Ent} {D D' : Nat → Bool}
def UD (h : HpL) (es : List Ent) (D : Nat → Bool) (i : Nat) : Prop := i < h.length ∨ ∃ (k : Nat) (e : Ent), es[k]? = some e ∧ D k = true ∧ i ∈ e.us.map (·.1)
def Inv (w0 : World) (T Fz0 : Nat → Prop) (ρ0 : Nat → Option Value) (s : Tm) (h : HpL) (es : List Ent) (D : Nat → Bool) (a : Act) (w : World) : Prop :=
  ∃ ρ Fz, RelM w0 T Fz0 (UD h es D) (ov D (es.map pH) 0 (hpf h)) ρ Fz w ∧ StT w ρ Fz (ov D (es.map pT) 0 (tmf s)) s.length a ∧ Pin ρ0 ρ
def Closed (M : List Nat) (D : Nat → Bool) : Prop := ∀ k m, M[k]? = some m → D k = true → ∀ i, m.testBit i = true → D i = true
theorem pT_some {e : Ent} {t : Nat} {x : TV} (hx : pT e t = some x) : e.d = some t ∧ x = e.v := by
  unfold pT at hx
  split at hx
  · rename_i hd; cases hx; exact ⟨hd, rfl⟩
  · cases hx
theorem one_any (EOK : EnvOk E) (FOK : FnsOk E) (hcall : CallOk E call) (tr : Trc E call ops M 0 ops.toList [] s h es s' h') (hM : ∀ j o, ops.toList[j]? = some o → ∃ m, M[j]? = some m ∧ MaskOk M (M.take j) o m) (hlt : ∀ (j : Nat) m, M[j]? = some m → m < 2 ^ j)
    {j : Nat} {o : Oper} (ho : ops[j]? = some o) (hDj : D j = false) (hC : Closed M D) (hpre : ∀ e ∈ o.after, Region.binds .any e = true → D e.on = true) (hD' : ∀ k, D' k = if k = j then true else D k) (hI : Inv w0 T Fz0 ρ0 s h es D a w) {K : Act → World → Prop} {Q : Exit → Act → World → Prop}
    (hK : ∀ a' w', Inv w0 T Fz0 ρ0 s h es D' a' w' → K a' w') : Closed M D' ∧ wpOp E.P ops Q j K a w := by
  have hol : ops.toList[j]? = some o := by simpa using ho
  obtain ⟨m, hm, hmask⟩ := hM j o hol
  have hjl : j < es.length := by rw [tr.len]; exact (List.getElem?_eq_some_iff.1 hol).1
  obtain ⟨e, he⟩ : ∃ e, es[j]? = some e := ⟨_, List.getElem?_eq_getElem hjl⟩
  have ek := tr.ok j e o he hol
  have hbits : ∀ i, m.testBit i = true → i < j := fun i hi => by
    rcases Nat.lt_or_ge i j with h' | h'
    · exact h'
    · have := Nat.testBit_lt_two_pow (Nat.lt_of_lt_of_le (hlt j m hm) (Nat.pow_le_pow_right (by omega) h'))
      rw [this] at hi; cases hi
  have hpm : ∀ i, m.testBit i = true → D i = true := by
    intro i hi
    obtain ⟨ed, h1, h2, h3⟩ := (hmask i).1 hi
    have hde := hpre ed (by simpa using h1) h2
    rcases h3 with rfl | h3
    · exact hde
    · have hlt' : ed.on < j := hbits _ ((hmask _).2 ⟨ed, h1, h2, .inl rfl⟩)
      rw [List.getD_eq_getElem?_getD, List.getElem?_take, if_pos hlt'] at h3
      cases hme : M[ed.on]? with
      | none => rw [hme] at h3; simp at h3
      | some me => rw [hme] at h3; exact hC ed.on me hme hde i h3
  have hCl : Closed M D' := by
    intro k mk hk hd i hi
    rw [hD'] at hd ⊢
    by_cases hij : i = j
    · rw [if_pos hij]
    · rw [if_neg hij]
      by_cases hkj : k = j
      · subst hkj; rw [hm] at hk; cases hk; exact hpm i hi
      · rw [if_neg hkj] at hd; exact hC k mk hk hd i hi
  refine ⟨hCl, ?_⟩
  have hMlen : ∀ (k : Nat) ek, es[k]? = some ek → ∃ mk, M[k]? = some mk := fun k ek hk => by
    have hkl := (List.getElem?_eq_some_iff.1 hk).1
    rw [tr.len] at hkl
    obtain ⟨mk, h1, _⟩ := hM k _ (List.getElem?_eq_getElem hkl)
    exact ⟨mk, h1⟩
  have later0 : ∀ (k : Nat) ek, j < k → es[k]? = some ek → D k = true → (∀ kk, e.w.testBit kk = true → ek.r.testBit kk = false ∧ ek.w.testBit kk = false) ∧ (∀ kk, ek.w.testBit kk = true → e.r.testBit kk = false) := by
    intro k ek hjk hk hd
    obtain ⟨mk, hmk⟩ := hMlen k ek hk
    have := tr.ff j k e ek mk he hk hmk hjk
    rw [Nat.zero_add] at this
    rcases this with hb | hb
    · have := hC k mk hmk hd j hb
      rw [hDj] at this; cases this
    · exact hb
  have agree : ∀ kk, e.r.testBit kk = true → ∀ (k : Nat) ek, es[k]? = some ek → D (0 + k) ≠ decide (0 + k < j) → ek.w.testBit kk = false := by
    intro kk hr k ek hk hne
    rw [Nat.zero_add] at hne
    rcases Nat.lt_trichotomy k j with hkj | hkj | hkj
    · have hd : D k = false := by
        rw [decide_eq_true hkj] at hne
        cases hd : D k with
        | false => rfl
        | true => rw [hd] at hne; exact absurd rfl hne
      have := tr.ff k j ek e m hk he hm hkj
      rw [Nat.zero_add] at this
      rcases this with hb | ⟨hb, _⟩
      · have := hpm k hb; rw [hd] at this; cases this
      · cases hw : ek.w.testBit kk with
        | false => rfl
        | true => have := (hb kk hw).1; rw [hr] at this; cases this
    · subst hkj; rw [hDj] at hne; simp at hne
    · have hd : D k = true := by
        rw [decide_eq_false (by omega : ¬ k < j)] at hne
        cases hd : D k with
        | true => rfl
        | false => rw [hd] at hne; exact absurd rfl hne
      obtain ⟨_, hb⟩ := later0 k ek hkj hk hd
      cases hw : ek.w.testBit kk with
      | false => rfl
      | true => have := hb kk hw; rw [hr] at this; cases this
  have wT : ∀ (k : Nat) ek t x, es[k]? = some ek → pT ek t = some x → ek.w.testBit (2 * t) = true := by
    intro k ek t x hk hx
    have hkl := (List.getElem?_eq_some_iff.1 hk).1
    rw [tr.len] at hkl
    have ok' := tr.ok k ek _ hk (List.getElem?_eq_getElem hkl)
    exact ok'.wd t (by rw [← ok'.d]; exact (pT_some hx).1)
  have wH : ∀ (k : Nat) ek i x, es[k]? = some ek → pH ek i = some x → ek.w.testBit (2 * (2 * i) + 1) = true := by
    intro k ek i x hk hx
    have hkl := (List.getElem?_eq_some_iff.1 hk).1
    rw [tr.len] at hkl
    exact (tr.ok k ek _ hk (List.getElem?_eq_getElem hkl)).wu i (lastU_mem hx)
  have stj : runP ((es.take j).map pT) (tmf s) = ov (fun i => decide (i < j)) (es.map pT) 0 (tmf s) := by
    rw [ov_lt (es.map pT) 0 j _ fun i _ => by rw [Nat.zero_add], List.map_take]
  have shj : runP ((es.take j).map pH) (hpf h) = ov (fun i => decide (i < j)) (es.map pH) 0 (hpf h) := by
    rw [ov_lt (es.map pH) 0 j _ fun i _ => by rw [Nat.zero_add], List.map_take]
  have aT : ∀ t, e.r.testBit (2 * t) = true → ov D (es.map pT) 0 (tmf s) t = runP ((es.take j).map pT) (tmf s) t := by
    intro t ht
    rw [stj]
    refine ov_congr _ 0 _ _ (fun k q hk hne => ?_) rfl
    rw [List.getElem?_map] at hk
    cases hke : es[k]? with
    | none => rw [hke] at hk; cases hk
    | some ek =>
      rw [hke] at hk; cases hk
      cases hx : pT ek t with
      | none => rfl
      | some x => have := wT k ek t x hke hx; rw [agree (2 * t) ht k ek hke hne] at this; cases this
  have aH : ∀ i, e.r.testBit (2 * (2 * i) + 1) = true → ov D (es.map pH) 0 (hpf h) i = runP ((es.take j).map pH) (hpf h) i := by
    intro i hi
    rw [shj]
    refine ov_congr _ 0 _ _ (fun k q hk hne => ?_) rfl
    rw [List.getElem?_map] at hk
    cases hke : es[k]? with
    | none => rw [hke] at hk; cases hk
    | some ek =>
      rw [hke] at hk; cases hk
      cases hx : pH ek i with
      | none => rfl
      | some x => have := wH k ek i x hke hx; rw [agree (2 * (2 * i) + 1) hi k ek hke hne] at this; cases this
  have aL : ∀ i, e.r.testBit (2 * (2 * i + 1) + 1) = true → VEq (runP ((es.take j).map pH) (hpf h) i) (ov D (es.map pH) 0 (hpf h) i) := by
    intro i hi
    let hard : Nat → Bool := fun k => match es[k]? with
      | some ek => (pH ek i).isSome && ek.w.testBit (2 * (2 * i + 1) + 1)
      | none => false
    have hhard : ∀ k ek, es[k]? = some ek → hard k = ((pH ek i).isSome && ek.w.testBit (2 * (2 * i + 1) + 1)) := fun k ek hk => by
      show (match es[k]? with | some ek => (pH ek i).isSome && ek.w.testBit (2 * (2 * i + 1) + 1) | none => false) = _
      rw [hk]
    have hs : ∀ k p y, (es.map pH)[k]? = some p → p i = some y → hard k = false → VEq (runP ((es.map pH).take k) (hpf h) i) y := by
      intro k p y hk hx hh
      rw [List.getElem?_map] at hk
      cases hke : es[k]? with
      | none => rw [hke] at hk; cases hk
      | some ek =>
        rw [hke] at hk; cases hk
        rw [hhard k ek hke, hx] at hh
        have hh : ek.w.testBit (2 * (2 * i + 1) + 1) = false := by simpa using hh
        have hkl := (List.getElem?_eq_some_iff.1 hke).1
        rw [tr.len] at hkl
        rcases (tr.ok k ek _ hke (List.getElem?_eq_getElem hkl)).wv i (lastU_mem hx) with h1 | h1
        · rw [hh] at h1; cases h1
        · rw [← List.map_take]
          have : updF (runP ((es.take k).map pH) (hpf h)) ek.us i = y := by
            rw [← ap_lastU]
            show ((pH ek) i).getD _ = y
            rw [hx]; rfl
          rw [this] at h1
          exact h1
    have hc : ∀ D2 : Nat → Bool, Closed M D2 → ∀ k p y, (es.map pH)[k]? = some p → p i = some y → D2 k = true → ∀ q, q < k → hard q = true → D2 q = true := by
      intro D2 hC2 k p y hk hx hd q hqk hq
      rw [List.getElem?_map] at hk
      cases hke : es[k]? with
      | none => rw [hke] at hk; cases hk
      | some ek =>
        rw [hke] at hk; cases hk
        cases hqe : es[q]? with
        | none =>
          have : hard q = false := by
            show (match es[q]? with | some ek => (pH ek i).isSome && ek.w.testBit (2 * (2 * i + 1) + 1) | none => false) = _
            rw [hqe]
          rw [this] at hq; cases hq
        | some eq =>
          rw [hhard q eq hqe] at hq
          simp only [Bool.and_eq_true] at hq
          obtain ⟨y', hy'⟩ := Option.isSome_iff_exists.1 hq.1
          obtain ⟨mk, hmk⟩ := hMlen k ek hke
          have := tr.ff q k eq ek mk hqe hke hmk hqk
          rw [Nat.zero_add] at this
          rcases this with hb | ⟨hb, _⟩
          · exact hC2 k mk hmk hd q hb
          · have := (hb _ (wH q eq i y' hqe hy')).2
            rw [wH k ek i y hke hx] at this; cases this
    have hlt2 : ∀ D2 : Nat → Bool, (∀ k, D2 k = decide (k < j)) → ∀ k p y, (es.map pH)[k]? = some p → p i = some y → D2 k = true → ∀ q, q < k → hard q = true → D2 q = true := by
      intro D2 h2 k p y _ _ hd q hqk _
      rw [h2] at hd ⊢
      have hd := of_decide_eq_true hd
      exact decide_eq_true (by omega)
    have e1 := ov_soft (V := VEq) VEq.refl VEq.trans VEq.symm hs (hc D hC)
    have e2 := ov_soft (V := VEq) VEq.refl VEq.trans VEq.symm hs (hlt2 (fun i => decide (i < j)) fun _ => rfl)
    have e3 : ov (fun k => decide (k < j) && hard k) (es.map pH) 0 (hpf h) i = ov (fun k => D k && hard k) (es.map pH) 0 (hpf h) i := by
      refine ov_congr _ 0 _ _ (fun k q hk hne => ?_) rfl
      rw [Nat.zero_add] at hne
      rw [List.getElem?_map] at hk
      cases hke : es[k]? with
      | none => rw [hke] at hk; cases hk
      | some ek =>
        rw [hke] at hk; cases hk
        cases hx : pH ek i with
        | none => rfl
        | some x =>
          have hh := hhard k ek hke
          cases hw : ek.w.testBit (2 * (2 * i + 1) + 1) with
          | false => rw [hw, Bool.and_false] at hh; rw [hh] at hne; simp at hne
          | true =>
            by_cases hdk : D k = decide (k < j)
            · rw [hdk] at hne; simp at hne
            · have := agree _ hi k ek hke (by rw [Nat.zero_add]; exact hdk)
              rw [hw] at this; cases this
    rw [shj]
    rw [e3] at e2
    exact VEq.trans _ _ _ e2 (VEq.symm _ _ e1)
  have nT : ov D' (es.map pT) 0 (tmf s) = putF (ov D (es.map pT) 0 (tmf s)) o.dst e.v := by
    rw [ov_add (p := pT e) (by rw [List.getElem?_map, he]; rfl) hD', ap_pT, ek.d]
    intro t x hx k q hk hq hd
    rw [List.getElem?_map] at hq
    cases hke : es[k]? with
    | none => rw [hke] at hq; cases hq
    | some ek' =>
      rw [hke] at hq; cases hq
      have h1 := ((later0 k ek' hk hke hd).1 _ (wT j e t x he hx)).2
      cases hx' : pT ek' t with
      | none => rfl
      | some x' => have := wT k ek' t x' hke hx'; rw [h1] at this; cases this
  have nH : ov D' (es.map pH) 0 (hpf h) = updF (ov D (es.map pH) 0 (hpf h)) e.us := by
    rw [ov_add (p := pH e) (by rw [List.getElem?_map, he]; rfl) hD']
    · exact ap_lastU ..
    intro t x hx k q hk hq hd
    rw [List.getElem?_map] at hq
    cases hke : es[k]? with
    | none => rw [hke] at hq; cases hq
    | some ek' =>
      rw [hke] at hq; cases hq
      have h1 := ((later0 k ek' hk hke hd).1 _ (wH j e t x he hx)).2
      cases hx' : pH ek' t with
      | none => rfl
      | some x' => have := wH k ek' t x' hke hx'; rw [h1] at this; cases this
  have nU : ∀ i, (UD h es D i ∨ i ∈ e.us.map (·.1)) → UD h es D' i := by
    rintro i ((h1 | ⟨k, ek', hk, hd, hi⟩) | hi)
    · exact .inl h1
    · refine .inr ⟨k, ek', hk, ?_, hi⟩
      rw [hD']; split
      · rfl
      · exact hd
    · exact .inr ⟨j, e, he, by rw [hD']; simp, hi⟩
  obtain ⟨ρ, Fz, Rm, st, pin⟩ := hI
  have hdst : ∀ t, o.dst = some t → t < s.length := fun t ht => tr.dst j e t he (ek.d.trans ht)
  unfold wpOp
  rw [ho]
  simp only
  rcases ek.step with ⟨q, x, hr, hq, hc, hx, hv, hus, hrt, hrh, hgd⟩ | ⟨hus, hv, hgd⟩
  · have hw : Region.wanted o (yielded ops a.tmps) = true := by
      rcases hgd with hg | ⟨g, want, t, hg, ht, hb, hrb⟩
      · unfold Region.wanted; rw [hg]
      · rw [guard_true hg ht st (by rw [aT t hrb]; exact hb)]; cases want <;> rfl
    rw [if_pos hw]
    obtain ⟨hr', hr1, hq⟩ : ∃ hr' : Hp, (∀ id ob, hr' id = some ob → ov D (es.map pH) 0 (hpf h) id = some ob) ∧ aop E call (evl (runP ((es.take j).map pT) (tmf s))) hr' e.n o = some q := by
      cases hlk : isLk o.op with
      | false =>
        refine ⟨hr, fun id ob hob => ?_, hq⟩
        obtain ⟨h1, h2⟩ := hrh id ob hob
        rcases h2 with h2 | ⟨h2, _⟩
        · rw [aH id h2]; exact h1
        · rw [hlk] at h2; cases h2
      | true =>
        refine ⟨ov D (es.map pH) 0 (hpf h), fun id ob hob => hob, lookup_same hlk hq fun id ob hob => ?_⟩
        obtain ⟨h1, h2⟩ := hrh id ob hob
        rcases h2 with h2 | ⟨_, h2⟩
        · rw [aH id h2, h1]; exact VEq.refl _
        · rw [← h1]; exact aL id h2
    refine .inl (aop_wp EOK FOK hcall Rm (hr := hr') hr1 (next := e.n) (ro := evl (runP ((es.take j).map pT) (tmf s))) (fun y hy => ?_) hq hc x hx (fun i hi hle hU => ?_) ?_)
    · have : evl (runP ((es.take j).map pT) (tmf s)) y = evl (ov D (es.map pT) 0 (tmf s)) y := by
        cases y with
        | tmp t => exact (aT t (hrt t hy)).symm
        | const v => rfl
        | global g => rfl
        | func f => rfl
      rw [this]
      exact evl_rep st y
    · rw [← hus] at hi
      rcases hU with h1 | ⟨k, ek', hk, hd, hi'⟩
      · have := (tr.n0 j e he).1; omega
      · rcases Nat.lt_trichotomy k j with hkj | hkj | hkj
        · have := tr.nn k j ek' e hk he hkj i hi'; omega
        · subst hkj; rw [hDj] at hd; cases hd
        · have h1 := ((later0 k ek' hkj hk hd).1 _ (ek.wu i hi)).2
          have hkl := (List.getElem?_eq_some_iff.1 hk).1
          rw [tr.len] at hkl
          have h2 := (tr.ok k ek' _ hk (List.getElem?_eq_getElem hkl)).wu i hi'
          rw [h1] at h2; cases h2
    · intro v w' ρ' Fz' R' mo hvr
      refine hK _ _ ⟨ρ', Fz', ?_, ?_, pin.mono mo⟩
      · rw [nH, hus]; exact R'.weakU fun i hi => nU i (by rw [hus]; exact hi)
      · rw [nT, hv]; exact (st.mono mo).put hdst hvr
  · have hw : Region.wanted o (yielded ops a.tmps) = false := by
      obtain ⟨g, want, t, hg, ht, hb, hrb⟩ := hgd
      rcases hb with hb | hb
      · rw [guard_true hg ht st (by rw [aT t hrb]; exact hb)]; cases want <;> rfl
      · exact guard_skip hg ht st (by rw [aT t hrb]; exact hb)
    rw [if_neg (by rw [hw]; decide)]
    refine hK _ _ ⟨ρ, Fz, ?_, ?_, pin⟩
    · rw [nH, hus]; exact Rm.weakU fun i hi => nU i (.inl hi)
    · rw [nT, hv]; exact st.put hdst tup_rep
theorem any_ok (EOK : EnvOk E) (FOK : FnsOk E) (hcall : CallOk E call) (tr : Trc E call ops M 0 ops.toList [] s h es s' h') (hM : ∀ j o, ops.toList[j]? = some o → ∃ m, M[j]? = some m ∧ MaskOk M (M.take j) o m) (hlt : ∀ (j : Nat) m, M[j]? = some m → m < 2 ^ j)
    {Q : Exit → Act → World → Prop} (hn : ∀ a' w', StR w0 T Fz0 ρ0 s' h' a' w' → Q .normal a' w') :
    ∀ (fuel : Nat) (listed : Array Bool) (a : Act) (w : World), listed.size = ops.size → nf listed.toList = fuel → Closed M (fun k => listed.getD k false) → Inv w0 T Fz0 ρ0 s h es (fun k => listed.getD k false) a w → wpAny E.P .any ops Q fuel listed a w := by
  have hfin : ∀ (listed : Array Bool) a w, listed.size = ops.size → Region.ready .any ops listed = [] → Inv w0 T Fz0 ρ0 s h es (fun k => listed.getD k false) a w → Q .normal a w := by
    intro listed a w hsz hr hI
    have hall : ∀ k, k < ops.size → listed.getD k false = true := by
      intro k
      induction k using Nat.strongRecOn with
      | _ k ih =>
        intro hk
        have hok : ops[k]? = some ops[k] := by simp [hk]
        obtain ⟨m, hm, hmask⟩ := hM k ops[k] (by simp [hk])
        have hnr : k ∉ Region.ready .any ops listed := by rw [hr]; simp
        rw [mem_ready] at hnr
        have hlk : k < listed.size := by omega
        cases hg : listed[k] with
        | true => simp [hlk, hg]
        | false =>
          refine absurd ⟨by simp [hlk, hg], ops[k], hok, fun e he hb => ?_⟩ hnr
          have hbit := (hmask e.on).2 ⟨e, by simpa using he, hb, .inl rfl⟩
          have hek : e.on < k := by
            rcases Nat.lt_or_ge e.on k with h' | h'
            · exact h'
            · have := Nat.testBit_lt_two_pow (Nat.lt_of_lt_of_le (hlt k m hm) (Nat.pow_le_pow_right (by omega) h'))
              rw [this] at hbit; cases hbit
          exact ih e.on hek (by omega)
    have hD : ∀ i, 0 ≤ i → listed.getD i false = decide (i < 0 + es.length) := by
      intro i _
      rw [Nat.zero_add, tr.len, Array.length_toList]
      by_cases hi : i < ops.size
      · rw [hall i hi, decide_eq_true hi]
      · rw [decide_eq_false hi, Array.getD_eq_getD_getElem?, Array.getElem?_eq_none (by omega)]; rfl
    obtain ⟨ρ, Fz, Rm, st, pin⟩ := hI
    rw [ov_lt (es.map pH) 0 es.length _ hD, show (es.map pH).take es.length = es.map pH from by rw [List.take_of_length_le (by simp)], ← tr.hp] at Rm
    rw [ov_lt (es.map pT) 0 es.length _ hD, show (es.map pT).take es.length = es.map pT from by rw [List.take_of_length_le (by simp)], ← tr.tm, ← tr.slen] at st
    refine hn _ _ ⟨ρ, Fz, Rm.weakU ?_, st, pin⟩
    rintro i (h1 | ⟨k, e, hk, _, hi⟩)
    · exact Nat.lt_of_lt_of_le h1 tr.hlen
    · exact (tr.n0 k e hk).2 i hi
  intro fuel
  induction fuel with
  | zero =>
    intro listed a w hsz hnf hC hI
    have hr : Region.ready .any ops listed = [] := by
      rw [List.eq_nil_iff_forall_not_mem]
      intro i hi
      obtain ⟨h1, o, ho, _⟩ := mem_ready.1 hi
      have hlt' : i < listed.size := by rw [hsz]; exact (Array.getElem?_eq_some_iff.1 ho).1
      have : listed[i] = false := by simpa [hlt'] using h1
      have h2 := nf_zero hnf (i := i) (b := false) (by simp [hlt', this])
      cases h2
    exact ⟨hr, hfin listed a w hsz hr hI⟩
  | succ fuel ih =>
    intro listed a w hsz hnf hC hI
    refine ⟨fun hr => hfin listed a w hsz hr hI, fun j hj => ?_⟩
    obtain ⟨h1, o, ho, hpre⟩ := mem_ready.1 hj
    have hlt' : j < listed.size := by rw [hsz]; exact (Array.getElem?_eq_some_iff.1 ho).1
    have hf : listed[j] = false := by simpa [hlt'] using h1
    have hD' : ∀ k, (listed.setIfInBounds j true).getD k false = if k = j then true else listed.getD k false := by
      intro k
      by_cases hk : k = j
      · subst hk; simp [hlt']
      · rw [if_neg hk, getD_set_ne false (Ne.symm hk)]
    have hCl := (one_any (D := fun k => listed.getD k false) (D' := fun k => (listed.setIfInBounds j true).getD k false) (Q := Q) EOK FOK hcall tr hM hlt ho (by simp [hlt', hf]) hC hpre hD' hI (K := fun _ _ => True) (fun _ _ _ => trivial)).1
    exact (one_any (D := fun k => listed.getD k false) (D' := fun k => (listed.setIfInBounds j true).getD k false) EOK FOK hcall tr hM hlt ho (by simp [hlt', hf]) hC hpre hD' hI fun a' w' hI' =>
      ih _ a' w' (by simp [hsz]) (by have := nf_set (l := listed.toList) (i := j) (by simp [hlt', hf]); rw [Array.toList_setIfInBounds]; omega) hCl hI').2
/-- A region that draws its order. -/
theorem drawn_ok (EOK : EnvOk E) (FOK : FnsOk E) (hcall : CallOk E call) (hmix : E.P.follows .mixedOrders = true) {R : Type} {K : Tm → HpL → Option R} {r : R} {id : Nat} {Q : Exit → Act → World → Prop} (hb : befOk (beforeM ops.toList []) 0 = true)
    (hk : runD E call ops (beforeM ops.toList []) 0 ops.toList [] s h K = some r) (st : StR w0 T Fz0 ρ0 s h a w) (hn : ∀ s' h' a' w', K s' h' = some r → StR w0 T Fz0 ρ0 s' h' a' w' → Q .normal a' w') : (Code.region id ops true).wp E.P Q a w := by
  obtain ⟨es, s', h', hk, tr⟩ := runD_trc _ _ _ _ _ _ hk
  obtain ⟨ms, h1, h2, h3⟩ := beforeM_spec ops.toList []
  rw [h1, List.nil_append] at hb tr
  simp only [List.nil_append] at h3
  refine wp_region_any hmix (any_ok EOK FOK hcall tr h3 (fun j m hm => by have := befOk_spec ms 0 hb j m hm; rwa [Nat.zero_add] at this) (fun a' w' => hn s' h' a' w' hk) _ _ _ _ (by simp) (by rw [Array.toList_replicate]; exact nf_rep _) ?_ ?_)
  · intro k m _ hd
    have : (Array.replicate ops.size false).getD k false = false := by
      rw [Array.getD_eq_getD_getElem?, Array.getElem?_replicate]; split <;> rfl
    simp only [this] at hd
    cases hd
  · have hD : ∀ k, (Array.replicate ops.size false).getD k false = false := fun k => by
      rw [Array.getD_eq_getD_getElem?, Array.getElem?_replicate]; split <;> rfl
    obtain ⟨ρ, Fz, Rm, st, pin⟩ := st
    refine ⟨ρ, Fz, ?_, ?_, pin⟩
    · rw [ov_none _ _ _ fun i _ _ => hD i]
      exact (Rm.drew).weakU fun i hi => .inl hi
    · rw [ov_none _ _ _ fun i _ _ => hD i]
      exact StT.mono (w := w) (Fz := Fz) (ρ := ρ) ⟨fun _ _ h => .inl h, fun _ h => h, fun _ _ => rfl⟩ st
end
end Go.Sx
