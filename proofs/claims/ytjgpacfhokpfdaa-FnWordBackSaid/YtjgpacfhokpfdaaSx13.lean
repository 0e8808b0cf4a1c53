/- Calls: what is handed on, what comes back. Any program. -/
import Derived.Test.YtjgpacfhokpfdaaSx12
set_option linter.unusedVariables false
set_option linter.unusedSimpArgs false
namespace Go.Sx
open Go.RowKit

section
variable {w w' : World} {Fz : Nat → Prop}
theorem own_one_blk {e : Nat} {s n : Nat} {v : Value} {vs : List Value} (ho : w.ownsRow 0 e s v n vs) : v.oneCell' = true := own_one ho
/-- The cells of what a call made, and its rows. -/
theorem cellsOwn_spec : ∀ (t : Ty) (n : Nat) (x : el t) (cs : List Value) (bl : List Nat), KO w Fz t x cs bl →
    ∃ vals : List Value, (cellsOwn t n x).2.2 = n + vals.length ∧ vals.flatMap blksV = bl ∧ (∀ v ∈ vals, v.oneCell' = true) ∧
      (∀ ρ : Nat → Option Value, (∀ i v, vals[i]? = some v → ρ (n + i) = some v) → All2 (ACRep w ρ Fz) (cellsOwn t n x).1 cs) ∧
      (cellsOwn t n x).2.1.map (·.1) = List.range' n vals.length ∧
      (∀ p ∈ (cellsOwn t n x).2.1, ∃ i o v, p = (n + i, some o) ∧ vals[i]? = some v ∧ o.wr = true ∧ ∀ ρ : Nat → Option Value, (∀ i v, vals[i]? = some v → ρ (n + i) = some v) → ObjRep w ρ Fz v o)
  | .ow e t, n, xs, cs, bl, h => by
    obtain ⟨v, vs, rfl, ho, hr, rfl⟩ := h
    refine ⟨[v], rfl, by simp [own_blks ho], fun u hu => by rw [List.mem_singleton.1 hu]; exact own_one ho, fun ρ hρ => ⟨⟨v, hρ 0 v rfl, own_gval ho, own_one ho⟩, trivial⟩, rfl, fun p hp => ?_⟩
    have := List.mem_singleton.1 hp
    subst this
    exact ⟨0, _, v, rfl, rfl, rfl, fun ρ _ => ⟨vs, ho, hr⟩⟩
  | .pair a b, n, x, cs, bl, h => by
    obtain ⟨c1, c2, b1, b2, rfl, rfl, h1, h2⟩ := h
    obtain ⟨v1, e1, f1, o1, r1, m1, p1⟩ := cellsOwn_spec a n x.1 c1 b1 h1
    obtain ⟨v2, e2, f2, o2, r2, m2, p2⟩ := cellsOwn_spec b (cellsOwn a n x.1).2.2 x.2 c2 b2 h2
    rw [e1] at e2 r2 m2 p2
    have hc : (cellsOwn (.pair a b) n x) = ((cellsOwn a n x.1).1 ++ (cellsOwn b (n + v1.length) x.2).1, (cellsOwn a n x.1).2.1 ++ (cellsOwn b (n + v1.length) x.2).2.1, (cellsOwn b (n + v1.length) x.2).2.2) := by
      rw [← e1]; rfl
    rw [hc]
    refine ⟨v1 ++ v2, ?_, by rw [List.flatMap_append, f1, f2], fun v hv => (List.mem_append.1 hv).elim (o1 v) (o2 v), fun ρ hρ => ?_, ?_, fun p hp => ?_⟩
    · simp only; rw [e2, List.length_append]; omega
    · refine (r1 ρ fun i v hi => hρ i v ?_).app (r2 ρ fun i v hi => ?_)
      · rw [List.getElem?_append_left (List.getElem?_eq_some_iff.1 hi).1]; exact hi
      · have := hρ (v1.length + i) v (by rw [List.getElem?_append_right (by omega)]; simpa using hi)
        rwa [← Nat.add_assoc] at this
    · simp only [List.map_append, m1, m2, List.length_append]
      rw [← List.range'_append_1]
    · rcases List.mem_append.1 hp with hp | hp
      · obtain ⟨i, o, v, rfl, hi, hw, ho⟩ := p1 p hp
        exact ⟨i, o, v, rfl, by rw [List.getElem?_append_left (List.getElem?_eq_some_iff.1 hi).1]; exact hi, hw, fun ρ hρ => ho ρ fun i v hi => hρ i v (by rw [List.getElem?_append_left (List.getElem?_eq_some_iff.1 hi).1]; exact hi)⟩
      · obtain ⟨i, o, v, rfl, hi, hw, ho⟩ := p2 p hp
        refine ⟨v1.length + i, o, v, by rw [Nat.add_assoc], by rw [List.getElem?_append_right (by omega)]; simpa using hi, hw, fun ρ hρ => ho ρ fun i v hi => ?_⟩
        have := hρ (v1.length + i) v (by rw [List.getElem?_append_right (by omega)]; simpa using hi)
        rwa [← Nat.add_assoc] at this
  | .bx ty t, n, x, cs, bl, h => by
    obtain ⟨g, cv, bl', rfl, hg, hk, rfl⟩ := h
    obtain ⟨v1, e1, f1, o1, r1, m1, p1⟩ := cellsOwn_spec t (Nat.succ n) x cv.toList bl' hk
    have hc : cellsOwn (.bx ty t) n x = ([.p n 0], (n, some (.box ty (cellsOwn t (Nat.succ n) x).1)) :: (cellsOwn t (Nat.succ n) x).2.1, (cellsOwn t (Nat.succ n) x).2.2) := rfl
    rw [hc]
    have sh : ∀ ρ : Nat → Option Value, (∀ i v, (Value.pointer (some ⟨g, 0, none⟩) :: v1)[i]? = some v → ρ (n + i) = some v) → ∀ i v, v1[i]? = some v → ρ (Nat.succ n + i) = some v := fun ρ hρ i v hi => by
      have := hρ (i + 1) v (by simpa using hi)
      rwa [show n + (i + 1) = Nat.succ n + i from by omega] at this
    refine ⟨.pointer (some ⟨g, 0, none⟩) :: v1, ?_, ?_, fun v hv => ?_, fun ρ hρ => ⟨⟨g, hρ 0 _ rfl, rfl⟩, trivial⟩, ?_, fun p hp => ?_⟩
    · simp only; rw [e1, List.length_cons]; omega
    · rw [List.flatMap_cons, f1]; rfl
    · rcases List.mem_cons.1 hv with rfl | hv
      · rfl
      · exact o1 v hv
    · rw [List.map_cons, m1, List.length_cons, List.range'_succ]
    · rcases List.mem_cons.1 hp with rfl | hp
      · exact ⟨0, _, _, rfl, rfl, rfl, fun ρ hρ => ⟨g, cv, rfl, hg, r1 ρ (sh ρ hρ)⟩⟩
      · obtain ⟨i, o, v, rfl, hi, hw, ho⟩ := p1 p hp
        exact ⟨i + 1, o, v, by rw [show n + (i + 1) = Nat.succ n + i from by omega], by simpa using hi, hw, fun ρ hρ => ho ρ (sh ρ hρ)⟩
  | .wrap t, n, x, cs, bl, h => cellsOwn_spec t n x cs bl h
  | .int k, n, x, cs, bl, h => by obtain ⟨h1, rfl⟩ := h; exact ⟨[], rfl, rfl, (by intro _ hv; cases hv), fun ρ _ => KI_cells ρ h1, rfl, (by intro _ hv; cases hv)⟩
  | .bool, n, x, cs, bl, h => by obtain ⟨h1, rfl⟩ := h; exact ⟨[], rfl, rfl, (by intro _ hv; cases hv), fun ρ _ => KI_cells ρ h1, rfl, (by intro _ hv; cases hv)⟩
  | .str, n, x, cs, bl, h => by obtain ⟨h1, rfl⟩ := h; exact ⟨[], rfl, rfl, (by intro _ hv; cases hv), fun ρ _ => KI_cells ρ h1, rfl, (by intro _ hv; cases hv)⟩
  | .sl e t, n, x, cs, bl, h => by obtain ⟨h1, rfl⟩ := h; exact ⟨[], rfl, rfl, (by intro _ hv; cases hv), fun ρ _ => KI_cells ρ h1, rfl, (by intro _ hv; cases hv)⟩
  | .unit, n, x, cs, bl, h => by obtain ⟨h1, rfl⟩ := h; exact ⟨[], rfl, rfl, (by intro _ hv; cases hv), fun ρ _ => KI_cells ρ h1, rfl, (by intro _ hv; cases hv)⟩
  | .fnc f, n, x, cs, bl, h => by obtain ⟨h1, rfl⟩ := h; exact ⟨[], rfl, rfl, (by intro _ hv; cases hv), fun ρ _ => KI_cells ρ h1, rfl, (by intro _ hv; cases hv)⟩
  | .any, n, x, cs, bl, h => by obtain ⟨h1, rfl⟩ := h; exact ⟨[], rfl, rfl, (by intro _ hv; cases hv), fun ρ _ => KI_cells ρ h1, rfl, (by intro _ hv; cases hv)⟩
  | .lk L t, n, x, cs, bl, h => by obtain ⟨h1, rfl⟩ := h; exact ⟨[], rfl, rfl, (by intro _ hv; cases hv), fun ρ _ => KI_cells ρ h1, rfl, (by intro _ hv; cases hv)⟩
  | .dw e t, n, xs, cs, bl, h => by
    obtain ⟨hd, hn⟩ := h
    obtain ⟨v, rfl⟩ : ∃ v, cs = [v] := by obtain ⟨v, h, _⟩ := DO_sl hd; exact ⟨v, h⟩
    refine ⟨[ghost v bl], rfl, by simp [ghost_blks], fun u hu => by rw [List.mem_singleton.1 hu]; rfl, fun ρ hρ => ⟨⟨ghost v bl, hρ 0 _ rfl, rfl, (DO_one hd).1⟩, trivial⟩, rfl, fun p hp => ?_⟩
    have := List.mem_singleton.1 hp
    subst this
    exact ⟨0, _, _, rfl, rfl, rfl, fun ρ _ => ⟨v, bl, rfl, hd, hn⟩⟩
  | .om T t, n, es, cs, bl, h => by
    obtain ⟨g, rfl, hB, rfl⟩ := h
    refine ⟨[.map (some g)], rfl, rfl, fun u hu => by rw [List.mem_singleton.1 hu]; rfl, fun ρ hρ => ⟨⟨_, hρ 0 _ rfl, rfl, rfl⟩, trivial⟩, rfl, fun p hp => ?_⟩
    have := List.mem_singleton.1 hp
    subst this
    exact ⟨0, _, _, rfl, rfl, rfl, fun ρ _ => ⟨g, rfl, hB⟩⟩
  | .mq T t, n, x, cs, bl, h => by obtain ⟨h1, rfl⟩ := h; exact ⟨[], rfl, rfl, (by intro _ hv; cases hv), fun ρ _ => KI_cells ρ h1, rfl, (by intro _ hv; cases hv)⟩
  | .fp t, n, x, cs, bl, h => by obtain ⟨h1, rfl⟩ := h; exact ⟨[], rfl, rfl, (by intro _ hv; cases hv), fun ρ _ => KI_cells ρ h1, rfl, (by intro _ hv; cases hv)⟩
end

/-! ### what a call hands back -/
def OneP (t : Ty) (v : Value) (cs : List Value) : Prop := (isAg t = true ∧ v = .agg cs.toArray) ∨ (isAg t = false ∧ cs = [v])
def PackL : List Ty → List Value → List Value → Prop
  | [], [], cs => cs = []
  | t :: ts, v :: vs, cs => ∃ c1 c2, cs = c1 ++ c2 ∧ c1.length = sz t ∧ OneP t v c1 ∧ PackL ts vs c2
  | _, _, _ => False
def packV : List Value → Value
  | [v] => v
  | vs => .tuple vs.toArray
def Packs (ts : List Ty) (v : Value) (cs : List Value) : Prop := ∃ vs, PackL ts vs cs ∧ v = packV vs
def BoxOut (w : World) (ρ : Nat → Option Value) : Nat → List (Option Obj) → List Value → Prop
  | _, [], bs => bs = []
  | i, some (.box ty cs0) :: r, bs => ∃ g cv rest, ρ i = some (.pointer (some ⟨g, 0, none⟩)) ∧ w.heap[g]? = some (.cells cv ty (0, 0)) ∧ cv.size = cs0.length ∧ bs = cv.toList ++ rest ∧ BoxOut w ρ (i + 1) r rest
  | i, some (.own _ _ _) :: r, bs => BoxOut w ρ (i + 1) r bs
  | i, some (.fro _ _ _) :: r, bs => BoxOut w ρ (i + 1) r bs
  | i, some (.mp _ _ _) :: r, bs => BoxOut w ρ (i + 1) r bs
  | i, some (.mq _ _ _) :: r, bs => BoxOut w ρ (i + 1) r bs
  | i, some (.dp _ _ _) :: r, bs => BoxOut w ρ (i + 1) r bs
  | i, some (.dh _ _ _ _ _ _) :: r, bs => BoxOut w ρ (i + 1) r bs
  | i, none :: r, bs => BoxOut w ρ (i + 1) r bs
/-- What may be written: the blocks that were handed on. -/
def Handed (h0 : HpL) (ρ : Nat → Option Value) (b : Nat) : Prop := ∃ id, Live (hpf h0) ρ id b
/-- What a name's value stands for, as one value. -/
def Row1 (ρ : Nat → Option Value) (i : Nat) (u : Value) : Prop := ∃ g, ρ i = some g ∧ gval g = u ∧ u.oneCell' = true
structure Back (w0 : World) (Fz0 : Nat → Prop) (h0 : HpL) (ρ : Nat → Option Value) (rs : List Nat) (ts : List Ty) (τ : Ty) (x : el τ) (v : Value) (w : World) : Prop where
  out : ∃ cs bs us Fz bl, Packs ts v cs ∧ BoxOut w ρ 0 h0 bs ∧ All2 (Row1 ρ) rs us ∧ KO w Fz τ x (cs ++ (bs ++ us)) bl ∧ bl.Nodup ∧
    (∀ b ∈ bl, ¬ Fz b ∧ b < w.heap.size ∧ (Handed h0 ρ b ∨ w0.heap.size ≤ b)) ∧ (∀ b, Fz0 b → Fz b) ∧ (∀ b, Fz b → b < w.heap.size ∧ (Fz0 b ∨ Handed h0 ρ b ∨ w0.heap.size ≤ b)) ∧
    (∀ i ty cs g, h0.getD i none = some (.box ty cs) → ρ i = some (.pointer (some ⟨g, 0, none⟩)) → g ∉ bl ∧ ¬ Fz g)
  env : Below 0 w0 w
  frame : ∀ b, b < w0.heap.size → ¬ Handed h0 ρ b → w.heap[b]? = w0.heap[b]?
/-- The rows that the arguments name, if the function may write into them. -/
def rsOf (E : Env) (f : Nat) (args : List TV) : List Nat := cond (Nat.beq (E.mode f) 1) (oIds (args.flatMap ownOf)) []
/-- A function answers as the plain machine says. -/
def FnOk (E : Env) (f : Nat) (τ : Ty) (args : List TV) (h0 : HpL) (x : el τ) : Prop :=
  ∀ ts, resTys E f = some ts → ∀ (w0 : World) (ρ : Nat → Option Value) (Fz0 : Nat → Prop) (cargs : Array Value),
    RelM w0 (Handed h0 ρ) Fz0 (fun i => i < h0.length) (hpf h0) ρ Fz0 w0 → All2 (TVRep w0 ρ Fz0) args cargs.toList →
    Calls E.P f cargs w0 fun e w => ∃ v, e = .returned v ∧ Back w0 Fz0 h0 ρ (rsOf E f args) ts τ x v w
def CallOk (E : Env) (call : CallF) : Prop := ∀ f τ args h0 x, call f τ args h0 = some x → FnOk E f τ args h0 x

section
variable {w : World} {ρ : Nat → Option Value} {Fz : Nat → Prop}
theorem one_rep {t : Ty} {v : Value} {cs : List Value} {acs : List AC} (hp : OneP t v cs) (hl : cs.length = sz t) (ha : All2 (ACRep w ρ Fz) (acs.take (sz t)) cs) (hle : sz t ≤ acs.length) : AVRep w ρ Fz (oneV t acs) v := by
  unfold oneV
  rcases hp with ⟨hag, rfl⟩ | ⟨hag, rfl⟩
  · rw [hag]
    exact ⟨cs.toArray, rfl, by simpa using ha⟩
  · rw [hag]
    simp only [List.length_singleton] at hl
    cases acs with
    | nil => simp at hle; omega
    | cons c r =>
      rw [← hl] at ha
      exact ha.1
theorem packL_rep : ∀ {ts : List Ty} {vs cs : List Value} {acs : List AC}, PackL ts vs cs → All2 (ACRep w ρ Fz) acs cs → All2 (AVRep w ρ Fz) (splitVs ts acs) vs
  | [], [], _, _, _, _ => trivial
  | t :: ts, v :: vs, cs, acs, hp, ha => by
    obtain ⟨c1, c2, rfl, hl, h1, h2⟩ := hp
    have ht := ha.take (sz t)
    have hd := ha.drop (sz t)
    rw [← hl, List.take_left] at ht
    rw [← hl, List.drop_left] at hd
    have hlen := ha.len
    rw [hl] at ht hd
    exact ⟨one_rep h1 hl ht (by rw [hlen, List.length_append]; omega), packL_rep h2 hd⟩
  | [], _ :: _, _, _, hp, _ => hp.elim
  | _ :: _, [], _, _, hp, _ => hp.elim
theorem packs_rep {ts : List Ty} {v : Value} {cs : List Value} {acs : List AC} (hp : Packs ts v cs) (ha : All2 (ACRep w ρ Fz) acs cs) : TVRep w ρ Fz (splitV ts acs) v := by
  obtain ⟨vs, hp, rfl⟩ := hp
  have h := packL_rep hp ha
  cases ts with
  | nil =>
    cases vs with
    | nil => exact ⟨#[], rfl, trivial⟩
    | cons => exact hp.elim
  | cons t ts =>
    cases vs with
    | nil => exact hp.elim
    | cons v vs =>
      cases ts with
      | nil =>
        cases vs with
        | nil => exact h.1
        | cons => obtain ⟨_, _, _, _, _, h2⟩ := hp; exact h2.elim
      | cons t' ts =>
        cases vs with
        | nil => obtain ⟨_, _, _, _, _, h2⟩ := hp; exact h2.elim
        | cons v' vs => exact ⟨(v :: v' :: vs).toArray, rfl, by simpa using h⟩
theorem packL_len : ∀ {ts : List Ty} {vs cs : List Value}, PackL ts vs cs → cs.length = sz (joinTy ts)
  | [], [], _, h => by rw [h]; rfl
  | [t], [v], _, h => by
    obtain ⟨c1, c2, rfl, hl, _, h2⟩ := h
    have : c2 = [] := h2
    subst this
    simpa [joinTy] using hl
  | t :: t' :: ts, v :: vs, _, h => by
    obtain ⟨c1, c2, rfl, hl, _, h2⟩ := h
    rw [List.length_append, packL_len h2, hl]; rfl
  | [], _ :: _, _, h => h.elim
  | _ :: _, [], _, h => h.elim
  | [t], v :: v' :: vs, _, h => by obtain ⟨_, _, _, _, _, h2⟩ := h; exact h2.elim
end

/-! ### renamed -/
section
variable {w : World} {ρ : Nat → Option Value} {Fz Fz' : Nat → Prop} {ids : List Nat}
theorem indexOf_some : ∀ {ids : List Nat} {id j : Nat}, indexOf ids id = some j → ids[j]? = some id
  | [], _, _, h => by cases h
  | i :: r, id, j, h => by
    simp only [indexOf] at h
    cases hb : Nat.beq i id with
    | true => rw [hb] at h; cases h; rw [Nat.eq_of_beq_eq_true hb]; rfl
    | false =>
      rw [hb] at h
      simp only [cond_false] at h
      cases hr : indexOf r id with
      | none => rw [hr] at h; cases h
      | some n => rw [hr] at h; cases h; simpa using indexOf_some hr
/-- The names behind a renaming. -/
def rename (ρ : Nat → Option Value) (ids : List Nat) (j : Nat) : Option Value := (ids[j]?).bind ρ
theorem ren0_rep {c : AC} {v : Value} (h : ACRep0 w ρ Fz c v) (hf : ∀ b, Fz b → Fz' b) : ACRep0 w (rename ρ ids) Fz' (renC0 ids c) v := by
  have m : Mono w ρ Fz w ρ Fz' := ⟨fun _ _ e => .inl e, hf, fun _ _ => rfl⟩
  have h := ACRep0_mono m h
  have key : ∀ {id j}, indexOf ids id = some j → ∀ u, ρ id = some u → rename ρ ids j = some u := fun hi u hu => by simp [rename, indexOf_some hi, hu]
  cases c with
  | o id =>
    simp only [renC0]
    cases hi : indexOf ids id with
    | none => trivial
    | some j => obtain ⟨u, h1, h2⟩ := h; exact ⟨u, key hi u h1, h2⟩
  | p id off =>
    simp only [renC0]
    cases hi : indexOf ids id with
    | none => trivial
    | some j => obtain ⟨g, h1, h2⟩ := h; exact ⟨g, key hi _ h1, h2⟩
  | pe id s i off =>
    simp only [renC0]
    cases hi : indexOf ids id with
    | none => trivial
    | some j => obtain ⟨g, n, c, ⟨u, h1, h3⟩, h2⟩ := h; exact ⟨g, n, c, ⟨u, key hi _ h1, h3⟩, h2⟩
  | fn f caps => exact h.elim
  | undef => trivial
  | int k n => exact h
  | bool b => exact h
  | str s => exact h
  | sl e t xs => exact h
  | nilsl => exact h
  | pr t x off => exact h
  | pnil => exact h
  | lk L t xs => exact h
  | slk q e t xs => exact h
  | mr T t es => exact h
theorem ren_rep {c : AC} {v : Value} (h : ACRep w ρ Fz c v) (hf : ∀ b, Fz b → Fz' b) : ACRep w (rename ρ ids) Fz' (renC ids c) v := by
  cases c with
  | fn f caps =>
    obtain ⟨cv, rfl, h2⟩ := h
    exact ⟨cv, rfl, h2.map (renC0 ids) fun _ _ h => ren0_rep h hf⟩
  | undef => trivial
  | int k n => exact ACRep_of0 (ren0_rep (c := .int k n) h hf)
  | bool b => exact ACRep_of0 (ren0_rep (c := .bool b) h hf)
  | str s => exact ACRep_of0 (ren0_rep (c := .str s) h hf)
  | sl e t xs => exact ACRep_of0 (ren0_rep (c := .sl e t xs) h hf)
  | nilsl => exact ACRep_of0 (ren0_rep (c := .nilsl) h hf)
  | o id => exact ACRep_of0 (ren0_rep (c := .o id) h hf)
  | p id off => exact ACRep_of0 (ren0_rep (c := .p id off) h hf)
  | pe id s i off => exact ACRep_of0 (ren0_rep (c := .pe id s i off) h hf)
  | pr t x off => exact ACRep_of0 (ren0_rep (c := .pr t x off) h hf)
  | pnil => exact ACRep_of0 (ren0_rep (c := .pnil) h hf)
  | lk L t xs => exact ACRep_of0 (ren0_rep (c := .lk L t xs) h hf)
  | slk q e t xs => exact ACRep_of0 (ren0_rep (c := .slk q e t xs) h hf)
  | mr T t es => exact ACRep_of0 (ren0_rep (c := .mr T t es) h hf)
theorem renA_rep {x : AV} {v : Value} (h : AVRep w ρ Fz x v) (hf : ∀ b, Fz b → Fz' b) : AVRep w (rename ρ ids) Fz' (renA ids x) v := by
  cases x with
  | one c => exact ren_rep h hf
  | agg cs => obtain ⟨cv, rfl, h2⟩ := h; exact ⟨cv, rfl, h2.map (renC ids) fun _ _ h => ren_rep h hf⟩
theorem renV_rep {x : TV} {v : Value} (h : TVRep w ρ Fz x v) (hf : ∀ b, Fz b → Fz' b) : TVRep w (rename ρ ids) Fz' (renV ids x) v := by
  cases x with
  | v a => exact renA_rep h hf
  | tup vs => obtain ⟨tv, rfl, h2⟩ := h; exact ⟨tv, rfl, h2.map (renA ids) fun _ _ h => renA_rep h hf⟩
end
end Go.Sx
