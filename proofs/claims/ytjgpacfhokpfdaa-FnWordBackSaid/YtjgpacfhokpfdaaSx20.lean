/- A call: the plain machine's answer is Go's. Any program. -/
import Derived.Test.YtjgpacfhokpfdaaSx19
set_option linter.unusedVariables false
set_option linter.unusedSimpArgs false
namespace Go.Sx
open Go.RowKit

section
variable {E : Env} {w0 w w' : World} {T Fz0 Fz Fz' : Nat → Prop} {h h' : HpL} {ρ ρ' ρ0 ρp : Nat → Option Value} {a : Act} {s s' : Tm} {call : CallF}
theorem boxOut_congr {w : World} : ∀ (l : HpL) (i : Nat) (bs : List Value), (∀ j ty cs, l[j]? = some (some (.box ty cs)) → ρp (i + j) = ρ0 (i + j)) → BoxOut w ρp i l bs → BoxOut w ρ0 i l bs
  | [], i, bs, _, h => h
  | none :: r, i, bs, he, h => boxOut_congr r (i + 1) bs (fun j ty cs hj => by have := he (j + 1) ty cs (by simpa using hj); rwa [show i + (j + 1) = i + 1 + j from by omega] at this) h
  | some (.own _ _ _) :: r, i, bs, he, h => boxOut_congr r (i + 1) bs (fun j ty cs hj => by have := he (j + 1) ty cs (by simpa using hj); rwa [show i + (j + 1) = i + 1 + j from by omega] at this) h
  | some (.fro _ _ _) :: r, i, bs, he, h => boxOut_congr r (i + 1) bs (fun j ty cs hj => by have := he (j + 1) ty cs (by simpa using hj); rwa [show i + (j + 1) = i + 1 + j from by omega] at this) h
  | some (.mp _ _ _) :: r, i, bs, he, h => boxOut_congr r (i + 1) bs (fun j ty cs hj => by have := he (j + 1) ty cs (by simpa using hj); rwa [show i + (j + 1) = i + 1 + j from by omega] at this) h
  | some (.mq _ _ _) :: r, i, bs, he, h => boxOut_congr r (i + 1) bs (fun j ty cs hj => by have := he (j + 1) ty cs (by simpa using hj); rwa [show i + (j + 1) = i + 1 + j from by omega] at this) h
  | some (.dp _ _ _) :: r, i, bs, he, h => boxOut_congr r (i + 1) bs (fun j ty cs hj => by have := he (j + 1) ty cs (by simpa using hj); rwa [show i + (j + 1) = i + 1 + j from by omega] at this) h
  | some (.dh _ _ _ _ _ _) :: r, i, bs, he, h => boxOut_congr r (i + 1) bs (fun j ty cs hj => by have := he (j + 1) ty cs (by simpa using hj); rwa [show i + (j + 1) = i + 1 + j from by omega] at this) h
  | some (.box ty cs) :: r, i, bs, he, h => by
    obtain ⟨g, cv, rest, h1, h2, h3, h4, h5⟩ := h
    have h0 := he 0 ty cs rfl
    rw [Nat.add_zero] at h0
    exact ⟨g, cv, rest, h0 ▸ h1, h2, h3, h4, boxOut_congr r (i + 1) rest (fun j ty cs hj => by have := he (j + 1) ty cs (by simpa using hj); rwa [show i + (j + 1) = i + 1 + j from by omega] at this) h5⟩
theorem pinLen_box : ∀ {l : HpL} {i ty : Nat} {cs : List AC}, l.getD i none = some (.box ty cs) → i < pinLen l
  | [], i, ty, cs, h => by simp at h
  | o :: r, 0, ty, cs, h => by
    have h : o = some (.box ty cs) := by simpa using h
    subst h
    unfold pinLen
    cases pinLen r with
    | zero => exact Nat.zero_lt_one
    | succ n => exact Nat.zero_lt_succ _
  | o :: r, i + 1, ty, cs, h => by
    have := pinLen_box (l := r) (i := i) (ty := ty) (cs := cs) (by simpa using h)
    unfold pinLen
    cases hp : pinLen r with
    | zero => omega
    | succ n => show i + 1 < Nat.succ (Nat.succ n); omega
theorem pinLen_shape : ∀ (l : HpL), pinLen (l.map shapeO) = pinLen l
  | [] => rfl
  | none :: r => by simp only [List.map_cons, pinLen, pinLen_shape r]; rfl
  | some (.own e t xs) :: r => by simp only [List.map_cons, pinLen, pinLen_shape r]; rfl
  | some (.fro e t xs) :: r => by simp only [List.map_cons, pinLen, pinLen_shape r]; rfl
  | some (.mp T n es) :: r => by simp only [List.map_cons, pinLen, pinLen_shape r]; rfl
  | some (.mq T n es) :: r => by simp only [List.map_cons, pinLen, pinLen_shape r]; rfl
  | some (.dp T n es) :: r => by simp only [List.map_cons, pinLen, pinLen_shape r]; rfl
  | some (.dh T n es a b c) :: r => by simp only [List.map_cons, pinLen, pinLen_shape r]; rfl
  | some (.box ty cs) :: r => by simp only [List.map_cons, pinLen, pinLen_shape r]; rfl
theorem notBox_shape : ∀ (l : HpL) (id : Nat), notBox (hpf (l.map shapeO) id) = notBox (hpf l id) := by
  intro l id
  unfold hpf
  rw [List.getD_eq_getElem?_getD, List.getD_eq_getElem?_getD, List.getElem?_map]
  cases l[id]? with
  | none => rfl
  | some o => cases o with
    | none => rfl
    | some o => cases o <;> rfl
theorem rows_rep {rs : List Nat} (hrow : ∀ i ∈ rs, ∃ u, Row1 ρ0 i u ∧ ρp i = ρ0 i) (pin : Pin ρp ρ) : ∃ us, All2 (Row1 ρ0) rs us ∧ All2 (ACRep w ρ Fz) (rs.map AC.o) us := by
  induction rs with
  | nil => exact ⟨[], trivial, trivial⟩
  | cons i r ih =>
    obtain ⟨us, h1, h2⟩ := ih fun j hj => hrow j (List.mem_cons_of_mem _ hj)
    obtain ⟨u, hu, he⟩ := hrow i List.mem_cons_self
    obtain ⟨g, h3, h4, h5⟩ := hu
    exact ⟨u :: us, ⟨⟨g, h3, h4, h5⟩, h1⟩, (let ⟨g', h6, h7⟩ := (pin i g (he.trans h3)).gval; ⟨g', h6, h7.trans h4, h5⟩), h2⟩
theorem finish0_ok {f : Nat} {τ : Ty} {fn : Func} {h0 : HpL} {rs : List Nat} {x : el τ} (hrow : ∀ i ∈ rs, ∃ u, Row1 ρ0 i u ∧ ρp i = ρ0 i) (hbox : ∀ i ty cs, h0.getD i none = some (.box ty cs) → (∃ g, ρ0 i = some (.pointer (some ⟨g, 0, none⟩))) ∧ ρp i = ρ0 i) (hk : finish0 E f τ fn h0 rs s h = some x) (st : StR w0 (Handed h0 ρ0) Fz0 ρp s h a w) {ts : List Ty} (hts : resTys E f = some ts) :
    a.defers = [] ∧ ∃ v, (results fn a.tmps).run E.P w = .ok v w ∧ Back w0 Fz0 h0 ρ0 rs ts τ x v w := by
  obtain ⟨ρ, Fz, Rm, st, pin⟩ := st
  refine ⟨st.def_, ?_⟩
  have hk2 := hk
  unfold finish0 at hk2
  rw [hts] at hk2
  split at hk2
  · rename_i ts' vs cs' h1 h2 h3
    cases h1
    obtain ⟨hc, hd⟩ := cond_some hk2
    simp only [Bool.and_eq_true] at hc
    obtain ⟨hf, ho⟩ := hc
    obtain ⟨us, hus, hres⟩ := results_ok Rm st h2
    obtain ⟨cs, hp, hcs⟩ := forms_pack hf hus
    obtain ⟨bs, hbo, hbs, hbn⟩ := out_ok Rm (h0 := h0) (Fz1 := Fz) (w1 := w) (fun i ty cs hi => by obtain ⟨⟨g, hg⟩, he⟩ := hbox i ty cs hi; exact ⟨g, he.trans hg⟩) pin h0 0 cs' (fun j => by rw [Nat.zero_add]) h3
    replace hbo : BoxOut w ρ0 0 h0 bs := boxOut_congr h0 0 bs (fun j ty cs hj => by
      rw [Nat.zero_add]
      exact (hbox j ty cs (by rw [List.getD_eq_getElem?_getD, hj]; rfl)).2) hbo
    obtain ⟨uv, huv, huv2⟩ := rows_rep (w := w) (Fz := Fz) (ρ := ρ) hrow pin
    refine ⟨packV us, hres, ?_, Rm.env, fun b hb hn => Rm.frame b hb hn⟩
    unfold ownsOnce at ho
    generalize hacs : vs.flatMap AV.cells ++ (cs' ++ rs.map AC.o) = acs at *
    have hall : All2 (ACRep w ρ Fz) acs (cs ++ (bs ++ uv)) := by rw [← hacs]; exact hcs.app (hbs.app huv2)
    generalize how : owIds (hpf h) τ acs = q at *
    obtain ⟨wr, sh, rest⟩ := q
    simp only [Bool.and_eq_true, Bool.not_eq_true'] at ho
    obtain ⟨⟨⟨⟨hnd, hdis⟩, hnb⟩, hfd⟩, hfb⟩ := ho
    generalize hfzq : fzIds (hpf h) τ acs = fq at *
    have hnd := nodupB_nodup hnd
    let Fz2 : Nat → Prop := fun b => Fz b ∨ (∃ id ∈ sh, LiveO (hpf h) ρ id b) ∨ ∃ id ∈ fq, Live (hpf h) ρ id b
    obtain ⟨hko, hown⟩ := decAll_KO (Fz' := Fz2) Rm (fun b hb => .inl hb) hd hall (fun id hi b hl => .inr (.inl ⟨id, by rw [how] at hi; exact hi, hl⟩)) (fun id hi b hl => .inr (.inr ⟨id, by rw [hfzq] at hi; exact hi, hl⟩))
    rw [how] at hko hown
    obtain ⟨hbl, hlive⟩ := bl_nodup Rm wr hnd hown
    have hsh : ∀ id, id ∈ wr → id ∉ sh := by
      intro id hi hs
      have : (wr.any sh.elem) = true := List.any_eq_true.2 ⟨id, hi, by simpa using hs⟩
      rw [this] at hdis; cases hdis
    have hfh : ∀ id, id ∈ wr → id ∉ fq := by
      intro id hi hs
      have : (wr.any fq.elem) = true := List.any_eq_true.2 ⟨id, hi, by simpa using hs⟩
      rw [this] at hfd; cases hfd
    refine ⟨cs, bs, uv, Fz2, _, ⟨us, hp, rfl⟩, hbo, huv, hko, hbl, fun b hb => ?_, fun b hb => .inl (Rm.fz0 b hb), fun b hb => ?_, fun i ty cs0 g hi hg => ?_⟩
    · obtain ⟨id, hid, hl⟩ := hlive b hb
      obtain ⟨m1, m2, m3⟩ := Rm.mt id b hl
      refine ⟨?_, m2, m3⟩
      rintro (hz | ⟨id', hi', hl'⟩ | ⟨id', hi', hl'⟩)
      · exact m1 hz
      · have := Rm.dis id id' b hl hl'.live
        subst this
        exact hsh _ hid hi'
      · have := Rm.dis id id' b hl hl'
        subst this
        exact hfh _ hid hi'
    · rcases hb with hb | ⟨id', hi', hl'⟩ | ⟨id', hi', hl'⟩
      · exact ⟨Rm.fzlt b hb, (Rm.fznew b hb).elim .inl fun h => .inr h⟩
      · obtain ⟨m1, m2, m3⟩ := Rm.mt id' b hl'.live
        exact ⟨m2, .inr m3⟩
      · obtain ⟨m1, m2, m3⟩ := Rm.mt id' b hl'
        exact ⟨m2, .inr m3⟩
    · have hil : h0[i]? = some (some (.box ty cs0)) := by
        rw [List.getD_eq_getElem?_getD] at hi
        cases hh : h0[i]? with
        | none => rw [hh] at hi; cases hi
        | some y => rw [hh] at hi; simp only [Option.getD_some] at hi; rw [hi]
      obtain ⟨cs1, hb1⟩ := hbn i ty cs0 hil
      rw [Nat.zero_add] at hb1
      have hlv : Live (hpf h) ρ i g := ⟨_, _, hb1, rfl, (pin i _ ((hbox i ty cs0 hi).2.trans hg)).ptr, rfl⟩
      have hno : ∀ id, LiveO (hpf h) ρ id g → False := by
        intro id hl
        have := Rm.dis i id g hlv hl.live
        subst this
        obtain ⟨e, t, xs, v, e1, _⟩ := hl
        rw [hb1] at e1; rcases e1 with e1 | e1 <;> cases e1
      refine ⟨fun hb => ?_, ?_⟩
      · obtain ⟨id, hid, hl⟩ := hlive g hb
        have := Rm.dis i id g hlv hl
        subst this
        have h9 := List.all_eq_true.1 hnb i hid
        unfold hpf at h9
        rw [hi] at h9
        cases h9
      · rintro (hz | ⟨id', _, hl'⟩ | ⟨id', hi', hl'⟩)
        · exact (Rm.mt i g hlv).1 hz
        · exact hno id' hl'
        · have := Rm.dis i id' g hlv hl'
          subst this
          have h9 := List.all_eq_true.1 hfb i hi'
          unfold hpf at h9
          rw [hi] at h9
          cases h9
  · cases hk2
theorem finish_ok {f : Nat} {τ : Ty} {fn : Func} {h0 : HpL} {rs : List Nat} {x : el τ} (hrow : ∀ i ∈ rs, ∃ u, Row1 ρ0 i u ∧ ρp i = ρ0 i) (hbox : ∀ i ty cs, h0.getD i none = some (.box ty cs) → (∃ g, ρ0 i = some (.pointer (some ⟨g, 0, none⟩))) ∧ ρp i = ρ0 i) {sig : Sig} (hk : finish E f τ fn h0 rs sig s h = some x) (st : StR w0 (Handed h0 ρ0) Fz0 ρp s h a w) {ts : List Ty} (hts : resTys E f = some ts) :
    (sig = .next ∨ sig = .ret) ∧ a.defers = [] ∧ ∃ v, (results fn a.tmps).run E.P w = .ok v w ∧ Back w0 Fz0 h0 ρ0 rs ts τ x v w := by
  have hsig : sig = .next ∨ sig = .ret := by
    cases sig with
    | next => exact .inl rfl
    | exit i => cases hk
    | ret => exact .inr rfl
  have hk2 : (match resOf E s h fn.results.toList, outOf h 0 h0 with
    | some vs, some cs' => updK h (frz (hpf h) (dpS (hpf h) (owIds (hpf h) τ (vs.flatMap AV.cells ++ (cs' ++ rs.map AC.o))).2.1)) fun h => finish0 E f τ fn h0 rs s h
    | _, _ => none) = some x := by rcases hsig with rfl | rfl <;> exact hk
  split at hk2
  · obtain ⟨h2, hk3, hh2, hl2, _⟩ := updK_some hk2
    exact ⟨hsig, finish0_ok hrow hbox hk3 (StR_frz st hh2 hl2) hts⟩
  · cases hk2
theorem outOf_shape (h : HpL) : ∀ (l : HpL) (i : Nat), outOf h i (l.map shapeO) = outOf h i l
  | [], i => rfl
  | none :: r, i => outOf_shape h r (i + 1)
  | some (.own e t xs) :: r, i => outOf_shape h r (i + 1)
  | some (.fro e t xs) :: r, i => outOf_shape h r (i + 1)
  | some (.mp T n es) :: r, i => outOf_shape h r (i + 1)
  | some (.mq T n es) :: r, i => outOf_shape h r (i + 1)
  | some (.dp T n es) :: r, i => outOf_shape h r (i + 1)
  | some (.dh T n es a b c) :: r, i => outOf_shape h r (i + 1)
  | some (.box ty cs) :: r, i => by
    show outOf h i (some (.box ty (cs.map fun _ => .undef)) :: r.map shapeO) = _
    simp only [outOf, outOf_shape h r (i + 1), List.length_map]
theorem ownsOnce_shape (h : Hp) (h0 : HpL) (τ : Ty) (cs : List AC) : ownsOnce h (h0.map shapeO) τ cs = ownsOnce h h0 τ cs := by
  unfold ownsOnce
  simp only [notBox_shape]
theorem finish0_shape (f : Nat) (τ : Ty) (fn : Func) (h0 : HpL) (rs : List Nat) (s : Tm) (h : HpL) : finish0 E f τ fn (h0.map shapeO) rs s h = finish0 E f τ fn h0 rs s h := by
  unfold finish0
  simp only [outOf_shape, ownsOnce_shape]
theorem finish_shape {R : Type} (f : Nat) (τ : Ty) (fn : Func) (h0 : HpL) (rs : List Nat) (sig : Sig) (s : Tm) (h : HpL) : finish E f τ fn (h0.map shapeO) rs sig s h = finish E f τ fn h0 rs sig s h := by
  unfold finish
  simp only [outOf_shape, finish0_shape]
def ExtOk (E : Env) : Prop := ∀ f g, E.ext f = some g → ∀ call, CallOk E call → ∀ τ args h0 x, g call τ args h0 = some x → FnOk E f τ args h0 x
theorem forceNs_eq {R : Type} : ∀ (l : List Nat) (K : List Nat → R), forceNs l K = K l
  | [], K => rfl
  | i :: r, K => by
    show forceN i (fun i => forceNs r fun r => K (i :: r)) = K (i :: r)
    rw [forceN_eq, forceNs_eq r]
theorem refsOf_args (args : Tm) (n : Nat) : refsOf (args ++ List.replicate n (.tup [])) = oIds (args.flatMap ownOf) := by
  unfold refsOf
  have : (List.replicate n (TV.tup [])).flatMap ownOf = [] := by
    induction n with
    | zero => rfl
    | succ n ih => rw [List.replicate_succ, List.flatMap_cons, ih]; rfl
  rw [List.flatMap_append, this, List.append_nil]
theorem lt_refLen : ∀ {l : List Nat} {i : Nat}, i ∈ l → i < refLen l
  | j :: r, i, h => by
    unfold refLen
    show i < cond (Nat.blt j (refLen r)) (refLen r) (Nat.succ j)
    cases hb : Nat.blt j (refLen r) with
    | true =>
      have hb : j < refLen r := Nat.le_of_ble_eq_true hb
      rcases List.mem_cons.1 h with rfl | h
      · exact hb
      · exact lt_refLen h
    | false =>
      have hb : ¬ j < refLen r := fun h => by have h9 := Nat.ble_eq_true_of_le (show Nat.succ _ ≤ _ from h); rw [Nat.blt, h9] at hb; cases hb
      rcases List.mem_cons.1 h with rfl | h
      · exact Nat.lt_succ_self _
      · have := lt_refLen h
        show i < j + 1
        omega
theorem maxN_l (a b : Nat) : a ≤ maxN a b := by
  unfold maxN
  cases hb : Nat.blt a b with
  | true => have hb : a < b := Nat.le_of_ble_eq_true hb; show a ≤ b; omega
  | false => exact Nat.le_refl _
theorem maxN_r (a b : Nat) : b ≤ maxN a b := by
  unfold maxN
  cases hb : Nat.blt a b with
  | true => exact Nat.le_refl _
  | false =>
    have hb : ¬ a < b := fun h => by have h9 := Nat.ble_eq_true_of_le (show Nat.succ _ ≤ _ from h); rw [Nat.blt, h9] at hb; cases hb
    show b ≤ a
    omega
theorem args_row {w : World} {ρ : Nat → Option Value} {Fz : Nat → Prop} {args : List TV} {vs : List Value} (ha : All2 (TVRep w ρ Fz) args vs) : ∀ i ∈ oIds (args.flatMap ownOf), ∃ u, Row1 ρ i u := by
  have key : ∀ (cs : List AC) (vs : List Value), All2 (ACRep w ρ Fz) cs vs → ∀ i ∈ oIds cs, ∃ u, Row1 ρ i u := by
    intro cs
    induction cs with
    | nil => intro vs _ i hi; cases hi
    | cons c cs ih =>
      intro vs h i hi
      obtain ⟨v, vs, rfl, h1, h2⟩ := all2_cons h
      cases c with
      | o id =>
        simp only [oIds, List.mem_cons] at hi
        rcases hi with rfl | hi
        · exact ⟨v, h1⟩
        · exact ih vs h2 i hi
      | _ => exact ih vs h2 i hi
  have keyA : ∀ (a : AV) (v : Value), AVRep w ρ Fz a v → ∀ i ∈ oIds a.cells, ∃ u, Row1 ρ i u := by
    intro a v h i hi
    cases a with
    | one c => exact key [c] [v] ⟨h, trivial⟩ i hi
    | agg cs => obtain ⟨cv, rfl, hc⟩ := h; exact key cs _ hc i hi
  have keyT : ∀ (l : List AV) (vs : List Value), All2 (AVRep w ρ Fz) l vs → ∀ i ∈ oIds (l.flatMap AV.cells), ∃ u, Row1 ρ i u := by
    intro l
    induction l with
    | nil => intro vs _ i hi; cases hi
    | cons a l ih =>
      intro vs h i hi
      obtain ⟨v, vs, rfl, h1, h2⟩ := all2_cons h
      rw [List.flatMap_cons, oIds_app] at hi
      rcases List.mem_append.1 hi with hi | hi
      · exact keyA a v h1 i hi
      · exact ih vs h2 i hi
  induction args generalizing vs with
  | nil => intro i hi; cases hi
  | cons a l ih =>
    obtain ⟨v, vs, rfl, h1, h2⟩ := all2_cons ha
    intro i hi
    rw [List.flatMap_cons, oIds_app] at hi
    rcases List.mem_append.1 hi with hi | hi
    · cases a with
      | v a => exact keyA a v h1 i hi
      | tup l => obtain ⟨tv, rfl, h3⟩ := h1; exact keyT l _ h3 i hi
    · exact ih h2 i hi
theorem evalS_ok (EOK : EnvOk E) (FOK : FnsOk E) (hmix : E.P.follows .mixedOrders = true) (hext : ExtOk E) (k : Nat) (hcall : CallOk E call) : CallOk E (evalS E k call) := by
  intro f τ args h0 x hx
  unfold evalS at hx
  cases he : E.ext f with
  | some g => rw [he] at hx; exact hext f g he call hcall τ args h0 x hx
  | none =>
    rw [he] at hx
    simp only at hx
    cases hf : E.P.funcs[f]? with
    | none => rw [hf] at hx; cases hx
    | some fn =>
      rw [hf] at hx
      simp only at hx
      cases hb : fn.body with
      | none => rw [hb] at hx; cases hx
      | some c =>
        rw [hb] at hx
        simp only [forceVs_eq, forceH_eq, forceN_eq, forceNs_eq, pinLen_shape, refsOf_args, ← rsOf.eq_1] at hx
        intro ts hts w0 ρ Fz0 cargs Rm hargs
        refine calls_of_wp hf hb ?_
        have hlen : args.length = cargs.size := by have := hargs.len; simpa using this
        have hrsub : ∀ i ∈ rsOf E f args, i ∈ oIds (args.flatMap ownOf) := by
          unfold rsOf
          cases Nat.beq (E.mode f) 1 with
          | true => exact fun _ h => h
          | false => intro i hi; cases hi
        generalize hrs : rsOf E f args = rs at hx hrsub ⊢
        generalize hmm : maxN (pinLen h0) (refLen rs) = mm at hx
        let ρp : Nat → Option Value := fun i => if i < mm then ρ i else none
        have hrow : ∀ i ∈ rs, ∃ u, Row1 ρ i u ∧ ρp i = ρ i := fun i hi => by
          obtain ⟨u, hu⟩ := args_row hargs i (hrsub i hi)
          exact ⟨u, hu, if_pos (by rw [← hmm]; exact Nat.lt_of_lt_of_le (lt_refLen hi) (maxN_r _ _))⟩
        have hbox : ∀ i ty cs, h0.getD i none = some (.box ty cs) → (∃ g, ρ i = some (.pointer (some ⟨g, 0, none⟩))) ∧ ρp i = ρ i := by
          intro i ty cs hi
          obtain ⟨v, hv, g, cv, rfl, _⟩ := Rm.objs i _ hi
          exact ⟨⟨g, hv⟩, if_pos (by rw [← hmm]; exact Nat.lt_of_lt_of_le (pinLen_box hi) (maxN_l _ _))⟩
        refine run_ok (ρ0 := ρp) (m := mm) EOK FOK hmix hcall (fun i v e => ?_) c hx (T := Handed h0 ρ) (Fz0 := Fz0) (w0 := w0) ⟨ρ, Fz0, Rm, ?_, fun i v e => ?_⟩ ?_
        · have e : (if i < mm then ρ i else none) = some v := e
          split at e
          · assumption
          · cases e
        · refine list_StT ?_ rfl
          rw [Array.toList_append, Array.toList_replicate, hlen]
          exact hargs.app (All2.mk _ _ _ tup_rep)
        · have e : (if i < mm then ρ i else none) = some v := e
          split at e
          · exact .inl e
          · cases e
        · intro sig s' h' a' w' hk st'
          rw [finish_shape (R := Unit)] at hk
          obtain ⟨hsig, hd, v, hres, hback⟩ := finish_ok hrow hbox hk st' hts
          rcases hsig with rfl | rfl
          · exact ⟨hd, v, hres, v, rfl, hback⟩
          · exact ⟨hd, v, hres, v, rfl, hback⟩
/-- THE PLAIN MACHINE IS SOUND. -/
theorem evalT_ok (EOK : EnvOk E) (FOK : FnsOk E) (hmix : E.P.follows .mixedOrders = true) (hext : ExtOk E) : ∀ k, CallOk E (evalT E k)
  | 0 => by intro f τ args h0 x hx; cases hx
  | k + 1 => evalS_ok EOK FOK hmix hext k (evalT_ok EOK FOK hmix hext k)
end
end Go.Sx
