/- Rows owned with all rows that are in them: cells taken in depth, elements written, rows in them lent. Any program. -/
import Derived.Test.YtjgpacfhokpfdaaSx10
import Derived.Lib.AppendZeros
set_option linter.unusedVariables false
set_option linter.unusedSimpArgs false
namespace Go.Sx
open Go.RowKit

theorem nodupB_nodup : ∀ {l : List Nat}, nodupB l = true → l.Nodup
  | [], _ => List.nodup_nil
  | i :: r, h => by
    simp only [nodupB, Bool.and_eq_true, Bool.not_eq_true'] at h
    refine List.nodup_cons.2 ⟨fun hm => ?_, nodupB_nodup h.2⟩
    have := h.1
    rw [List.elem_eq_contains] at this
    simp [hm] at this

section
variable {w w' : World}
/-- Cells of which all rows are one's own. -/
def Cw (w : World) : List AC → List Value → List (List Nat) → Prop
  | [], [], [] => True
  | c :: cs, v :: vs, b :: bs => DC w c v b ∧ Cw w cs vs bs
  | _, _, _ => False
theorem Cw_cons {c : AC} {cs : List AC} {vs : List Value} {bs : List (List Nat)} (h : Cw w (c :: cs) vs bs) : ∃ v vs' b bs', vs = v :: vs' ∧ bs = b :: bs' ∧ DC w c v b ∧ Cw w cs vs' bs' := by
  cases vs with
  | nil => exact h.elim
  | cons v vs =>
    cases bs with
    | nil => exact h.elim
    | cons b bs => exact ⟨v, vs, b, bs, rfl, rfl, h.1, h.2⟩
theorem Cw_nil {vs : List Value} {bs : List (List Nat)} (h : Cw w [] vs bs) : vs = [] ∧ bs = [] := by
  cases vs with
  | cons => exact h.elim
  | nil =>
    cases bs with
    | cons => exact h.elim
    | nil => exact ⟨rfl, rfl⟩
theorem Cw_app : ∀ {cs cs' : List AC} {vs vs' : List Value} {bs bs' : List (List Nat)}, Cw w cs vs bs → Cw w cs' vs' bs' → Cw w (cs ++ cs') (vs ++ vs') (bs ++ bs')
  | [], _, _, _, _, _, h, h' => by obtain ⟨rfl, rfl⟩ := Cw_nil h; exact h'
  | c :: cs, _, _, _, _, _, h, h' => by
    obtain ⟨v, vs, b, bs, rfl, rfl, h1, h2⟩ := Cw_cons h
    exact ⟨h1, Cw_app h2 h'⟩
theorem Cw_len : ∀ {cs : List AC} {vs : List Value} {bs : List (List Nat)}, Cw w cs vs bs → vs.length = cs.length ∧ bs.length = cs.length
  | [], _, _, h => by obtain ⟨rfl, rfl⟩ := Cw_nil h; exact ⟨rfl, rfl⟩
  | c :: cs, _, _, h => by
    obtain ⟨v, vs, b, bs, rfl, rfl, h1, h2⟩ := Cw_cons h
    have := Cw_len h2
    simp only [List.length_cons, this.1, this.2, and_self]
theorem Cw_get : ∀ {cs : List AC} {vs : List Value} {bs : List (List Nat)}, Cw w cs vs bs → ∀ {i : Nat} {c : AC}, cs[i]? = some c → ∃ v b, vs[i]? = some v ∧ bs[i]? = some b ∧ DC w c v b
  | [], _, _, _, i, c, hc => by simp at hc
  | c0 :: cs, _, _, h, i, c, hc => by
    obtain ⟨v, vs, b, bs, rfl, rfl, h1, h2⟩ := Cw_cons h
    cases i with
    | zero => simp at hc; subst hc; exact ⟨v, b, rfl, rfl, h1⟩
    | succ i => simpa using Cw_get h2 (i := i) (c := c) (by simpa using hc)
theorem Cw_set : ∀ {cs : List AC} {vs : List Value} {bs : List (List Nat)}, Cw w cs vs bs → ∀ (i : Nat) {c : AC} {v : Value} {b : List Nat}, DC w c v b → Cw w (cs.set i c) (vs.set i v) (bs.set i b)
  | [], _, _, h, i, c, v, b, hd => by obtain ⟨rfl, rfl⟩ := Cw_nil h; simpa using h
  | c0 :: cs, _, _, h, i, c, v, b, hd => by
    obtain ⟨v0, vs, b0, bs, rfl, rfl, h1, h2⟩ := Cw_cons h
    cases i with
    | zero => exact ⟨hd, h2⟩
    | succ i => exact ⟨h1, Cw_set h2 i hd⟩
theorem Cw_mono : ∀ {cs : List AC} {vs : List Value} {bs : List (List Nat)}, (∀ k ∈ bs.flatten, w'.heap[k]? = w.heap[k]?) → Cw w cs vs bs → Cw w' cs vs bs
  | [], _, _, _, h => by obtain ⟨rfl, rfl⟩ := Cw_nil h; trivial
  | c0 :: cs, _, _, hb, h => by
    obtain ⟨v0, vs, b0, bs, rfl, rfl, h1, h2⟩ := Cw_cons h
    rw [List.flatten_cons] at hb
    exact ⟨DC_mono (fun k hk => hb k (List.mem_append_left _ hk)) h1, Cw_mono (fun k hk => hb k (List.mem_append_right _ hk)) h2⟩
theorem DO_cells : ∀ {t : Ty} {x : el t} {cs : List Value} {bl : List Nat}, DO w t x cs bl → ∃ bs, Cw w (cells t x) cs bs ∧ bl = bs.flatten
  | .int _, _, _, _, h => by obtain ⟨rfl, rfl⟩ := h; exact ⟨[[]], ⟨⟨rfl, rfl⟩, trivial⟩, rfl⟩
  | .bool, _, _, _, h => by obtain ⟨rfl, rfl⟩ := h; exact ⟨[[]], ⟨⟨rfl, rfl⟩, trivial⟩, rfl⟩
  | .str, _, _, _, h => by obtain ⟨rfl, rfl⟩ := h; exact ⟨[[]], ⟨⟨rfl, rfl⟩, trivial⟩, rfl⟩
  | .unit, _, _, _, h => by obtain ⟨rfl, rfl⟩ := h; exact ⟨[], trivial, rfl⟩
  | .wrap t, _, _, _, h => DO_cells (t := t) h
  | .sl e t, xs, cs, bl, h => by
    have h' := h
    obtain ⟨v, rfl, _⟩ := DO_sl h'
    exact ⟨[bl], ⟨h, trivial⟩, by simp⟩
  | .pair a b, x, _, _, h => by
    obtain ⟨c1, c2, b1, b2, rfl, rfl, h1, h2⟩ := h
    obtain ⟨s1, k1, rfl⟩ := DO_cells h1
    obtain ⟨s2, k2, rfl⟩ := DO_cells h2
    exact ⟨s1 ++ s2, Cw_app k1 k2, by rw [List.flatten_append]⟩
  | .ow _ _, _, _, _, h | .fnc _, _, _, _, h | .bx _ _, _, _, _, h | .any, _, _, _, h | .lk _ _, _, _, _, h | .fp _, _, _, _, h | .mq _ _, _, _, _, h | .om _ _, _, _, _, h | .dw _ _, _, _, _, h => h.elim
theorem dec_DO : ∀ (t : Ty) (acs : List AC) (x : el t) (rest : List AC) (vs : List Value) (bs : List (List Nat)), dec noH t acs = some (x, rest) → Cw w acs vs bs →
    ∃ c1 c2 b1 b2, vs = c1 ++ c2 ∧ bs = b1 ++ b2 ∧ Cw w rest c2 b2 ∧ DO w t x c1 b1.flatten
  | .int k, acs, x, rest, vs, bs, hd, ha => by
    have := dec_int hd; subst this
    obtain ⟨v, vs, b, bs, rfl, rfl, ⟨rfl, rfl⟩, h2⟩ := Cw_cons ha
    exact ⟨[_], vs, [_], bs, rfl, rfl, h2, rfl, rfl⟩
  | .bool, acs, x, rest, vs, bs, hd, ha => by
    have := dec_bool hd; subst this
    obtain ⟨v, vs, b, bs, rfl, rfl, ⟨rfl, rfl⟩, h2⟩ := Cw_cons ha
    exact ⟨[_], vs, [_], bs, rfl, rfl, h2, rfl, rfl⟩
  | .str, acs, x, rest, vs, bs, hd, ha => by
    have := dec_str hd; subst this
    obtain ⟨v, vs, b, bs, rfl, rfl, ⟨rfl, rfl⟩, h2⟩ := Cw_cons ha
    exact ⟨[_], vs, [_], bs, rfl, rfl, h2, rfl, rfl⟩
  | .unit, acs, x, rest, vs, bs, hd, ha => by
    simp only [dec, Option.some.injEq] at hd
    cases hd
    exact ⟨[], vs, [], bs, rfl, rfl, ha, rfl, rfl⟩
  | .wrap t, acs, x, rest, vs, bs, hd, ha => dec_DO t acs x rest vs bs hd ha
  | .sl e t, acs, x, rest, vs, bs, hd, ha => by
    obtain ⟨c, rfl, hr⟩ := dec_sl hd
    obtain ⟨v, vs, b, bs, rfl, rfl, h1, h2⟩ := Cw_cons ha
    cases c with
    | sl e' t' xs' =>
      have := as_some (show (SlV.mk e' t' xs').as e t = some x from hr)
      cases this
      exact ⟨[_], vs, [_], bs, rfl, rfl, h2, by rw [List.flatten_cons, List.flatten_nil, List.append_nil]; exact h1⟩
    | nilsl => exact h1.elim
    | slk => exact h1.elim
    | o id => exact h1.elim
    | _ => simp [asRead, slc] at hr
  | .pair a b, acs, x, rest, vs, bs, hd, ha => by
    obtain ⟨m, h1, h2⟩ := dec_pair hd
    obtain ⟨c1, c2, b1, b2, rfl, rfl, k1, d1⟩ := dec_DO a acs x.1 m vs bs h1 ha
    obtain ⟨c3, c4, b3, b4, rfl, rfl, k2, d2⟩ := dec_DO b m x.2 rest c2 b2 h2 k1
    exact ⟨c1 ++ c3, c4, b1 ++ b3, b4, by rw [List.append_assoc], by rw [List.append_assoc], k2, c1, c3, _, _, rfl, by rw [List.flatten_append], d1, d2⟩
  | .ow _ _, acs, x, rest, vs, bs, hd, ha => by
    obtain ⟨c, rfl, hr⟩ := dec_sl hd
    obtain ⟨v, vs, b, bs, rfl, rfl, h1, h2⟩ := Cw_cons ha
    cases c with
    | nilsl => exact h1.elim
    | o id => exact h1.elim
    | _ => simp [asOwn] at hr
  | .dw _ _, acs, x, rest, vs, bs, hd, ha => by
    obtain ⟨c, rfl, hr⟩ := dec_sl hd
    obtain ⟨v, vs, b, bs, rfl, rfl, h1, h2⟩ := Cw_cons ha
    cases c with
    | nilsl => exact h1.elim
    | o id => exact h1.elim
    | _ => simp [asDp] at hr
  | .om _ _, acs, x, rest, vs, bs, hd, ha => by
    obtain ⟨c, rfl, hr⟩ := dec_sl hd
    obtain ⟨v, vs, b, bs, rfl, rfl, h1, h2⟩ := Cw_cons ha
    cases c with
    | o id => exact h1.elim
    | _ => simp [asOm] at hr
  | .mq _ _, acs, x, rest, vs, bs, hd, ha => by
    obtain ⟨c, rfl, hr⟩ := dec_sl hd
    obtain ⟨v, vs, b, bs, rfl, rfl, h1, h2⟩ := Cw_cons ha
    cases c with
    | o id => exact h1.elim
    | mr => exact h1.elim
    | _ => simp [asMq, mqc] at hr
  | .fnc f, acs, x, rest, vs, bs, hd, ha => by
    cases acs with
    | nil => simp [dec, decFnc] at hd
    | cons c acs =>
      obtain ⟨v, vs, b, bs, rfl, rfl, h1, h2⟩ := Cw_cons ha
      cases c with
      | fn => exact h1.elim
      | _ => simp [dec, decFnc] at hd
  | .bx ty t, acs, x, rest, vs, bs, hd, ha => by
    cases acs with
    | nil => simp [dec, decBx] at hd
    | cons c acs =>
      obtain ⟨v, vs, b, bs, rfl, rfl, h1, h2⟩ := Cw_cons ha
      cases c with
      | p => exact h1.elim
      | _ => simp [dec, decBx] at hd
  | .fp t, acs, x, rest, vs, bs, hd, ha => by
    cases acs with
    | nil => simp [dec, decFp] at hd
    | cons c acs =>
      obtain ⟨v, vs, b, bs, rfl, rfl, h1, h2⟩ := Cw_cons ha
      cases c with
      | p => exact h1.elim
      | pr => exact h1.elim
      | _ => simp [dec, decFp] at hd
  | .any, _, _, _, _, _, hd, _ | .lk _ _, _, _, _, _, _, hd, _ => by simp [dec] at hd
theorem decAll_DO {t : Ty} {acs : List AC} {x : el t} {vs : List Value} {bs : List (List Nat)} (hd : decAll noH t acs = some x) (ha : Cw w acs vs bs) : DO w t x vs bs.flatten := by
  unfold decAll at hd
  cases hc : dec noH t acs with
  | none => rw [hc] at hd; cases hd
  | some p =>
    obtain ⟨y, r⟩ := p
    rw [hc] at hd
    cases r with
    | cons => cases hd
    | nil =>
      cases hd
      obtain ⟨c1, c2, b1, b2, rfl, rfl, k, d⟩ := dec_DO t acs x [] vs bs hc ha
      obtain ⟨rfl, rfl⟩ := Cw_nil k
      simpa using d
theorem DO_len {t : Ty} {x : el t} {cs : List Value} {bl : List Nat} (h : DO w t x cs bl) : cs.length = sz t :=
  KI_len (DO_KI (Fz := fun _ => True) (fun _ _ => trivial) h)
/-! lists -/
theorem seg_step {α : Type} (l : List α) (k : Nat) (v : α) (rest : List α) (hk : k + (rest.length + 1) ≤ l.length) :
    (l.set k v).take (k + 1) ++ rest ++ (l.set k v).drop (k + 1 + rest.length) = l.take k ++ (v :: rest) ++ l.drop (k + (rest.length + 1)) := by
  have h1 : (l.set k v).take (k + 1) = l.take k ++ [v] := by
    rw [List.take_add_one, List.take_set_of_le (Nat.le_refl k), List.getElem?_set_self (by omega)]; rfl
  rw [h1, List.drop_set_of_lt (by omega), List.append_assoc, List.append_assoc, List.append_assoc]
  simp [Nat.add_assoc, Nat.add_comm 1]
theorem Cw_setAt : ∀ (us : List AC) (uv : List Value) (ub : List (List Nat)) (cs : List AC) (cv : List Value) (cb : List (List Nat)) (off : Nat), Cw w us uv ub → Cw w cs cv cb → off + us.length ≤ cs.length →
    Cw w (setAt cs off us) (cv.take off ++ uv ++ cv.drop (off + uv.length)) (cb.take off ++ ub ++ cb.drop (off + ub.length))
  | [], uv, ub, cs, cv, cb, off, hu, hc, _ => by
    obtain ⟨rfl, rfl⟩ := Cw_nil hu
    simpa [setAt] using hc
  | u :: us, _, _, cs, cv, cb, off, hu, hc, hl => by
    obtain ⟨v, uv, b, ub, rfl, rfl, h1, h2⟩ := Cw_cons hu
    have hlen := Cw_len hc
    have hlen2 := Cw_len h2
    simp only [List.length_cons] at hl
    have ih := Cw_setAt us uv ub (cs.set off u) (cv.set off v) (cb.set off b) (off + 1) h2 (Cw_set hc off h1) (by simp; omega)
    rw [setAt]
    rw [seg_step cv off v uv (by omega), seg_step cb off b ub (by omega)] at ih
    exact ih
theorem flat_at (bls : List (List Nat)) (i : Nat) (hi : i < bls.length) : bls.flatten = (bls.take i).flatten ++ bls.getD i [] ++ (bls.drop (i + 1)).flatten := by
  have h := List.take_append_drop i bls
  rw [List.drop_eq_getElem_cons hi] at h
  conv => lhs; rw [← h]
  rw [List.flatten_append, List.flatten_cons, List.getD_eq_getElem?_getD, List.getElem?_eq_getElem hi, Option.getD_some, List.append_assoc]
theorem flat_set (bls : List (List Nat)) (i : Nat) (hi : i < bls.length) (b : List Nat) : (bls.set i b).flatten = (bls.take i).flatten ++ b ++ (bls.drop (i + 1)).flatten := by
  rw [flat_at _ i (by simpa using hi), List.take_set_of_le (Nat.le_refl i), List.drop_set_of_lt (by omega), List.getD_eq_getElem?_getD, List.getElem?_set_self (by simpa using hi)]; rfl
theorem nodup3 {P b Q : List Nat} : (P ++ b ++ Q).Nodup ↔ b.Nodup ∧ (P ++ Q).Nodup ∧ ∀ x ∈ b, x ∉ P ++ Q := by
  have hp : (P ++ b ++ Q).Perm (b ++ (P ++ Q)) := by rw [List.append_assoc]; exact List.perm_append_comm_assoc ..
  rw [hp.nodup_iff, List.nodup_append]
  exact ⟨fun ⟨a1, a2, a3⟩ => ⟨a1, a2, fun x hx hm => a3 x hx x hm rfl⟩, fun ⟨a1, a2, a3⟩ => ⟨a1, a2, fun x hx y hy e => a3 x hx (e ▸ hy)⟩⟩
theorem seg_at (vs us : List Value) (n i j s : Nat) (hi : i < n) (hj : j < n) (hvl : vs.length = n * s) (hus : us.length = s) :
    ((vs.take (i * s) ++ us ++ vs.drop ((i + 1) * s)).drop (j * s)).take s = if j = i then us else (vs.drop (j * s)).take s := by
  have hle : (i + 1) * s ≤ n * s := Nat.mul_le_mul_right _ hi
  have hm : (i + 1) * s = i * s + s := Nat.succ_mul ..
  have hlt : (vs.take (i * s)).length = i * s := by rw [List.length_take]; omega
  rcases Nat.lt_trichotomy j i with hji | rfl | hji
  · rw [if_neg (by omega)]
    have hle2 : (j + 1) * s ≤ i * s := Nat.mul_le_mul_right _ hji
    rw [Nat.succ_mul] at hle2
    rw [List.append_assoc, List.drop_append_of_le_length (by omega), List.take_append_of_le_length (by rw [List.length_drop]; omega), List.drop_take, List.take_take, Nat.min_eq_left (by omega)]
  · rw [if_pos rfl, List.append_assoc]
    conv => lhs; rw [show (vs.take (j * s) ++ (us ++ vs.drop ((j + 1) * s))).drop (j * s) = us ++ vs.drop ((j + 1) * s) from by
      conv => lhs; arg 1; rw [← hlt]
      exact List.drop_left]
    rw [← hus]; exact List.take_left
  · rw [if_neg (by omega)]
    have hle2 : (i + 1) * s ≤ j * s := Nat.mul_le_mul_right _ hji
    have e : (vs.take (i * s) ++ us ++ vs.drop ((i + 1) * s)).drop (j * s) = vs.drop (j * s) := by
      have hj2 : j * s = (vs.take (i * s) ++ us).length + (j * s - (i + 1) * s) := by rw [List.length_append, hlt, hus]; omega
      rw [hj2, List.drop_length_add_append, List.drop_drop, List.length_append, hlt, hus]
      congr 1; omega
    rw [e]
/-- A row owned with what is in it, one element of it another. -/
theorem DO_rowSet {e : Nat} {t : Ty} {xs : List (el t)} {v : Value} {vs : List Value} {bls : List (List Nat)} {i : Nat} {z : el t} {us : List Value} {bl2 : List Nat} (hi : i < xs.length) (hbl : bls.length = xs.length) (hvl : vs.length = xs.length * sz t)
    (hown : w'.ownsRow 0 e (sz t) v xs.length (vs.take (i * sz t) ++ us ++ vs.drop ((i + 1) * sz t)))
    (hr : ∀ j (hj : j < xs.length), DO w t xs[j] ((vs.drop (j * sz t)).take (sz t)) (bls.getD j [])) (hw : ∀ j, j ≠ i → j < xs.length → ∀ b ∈ bls.getD j [], w'.heap[b]? = w.heap[b]?) (hz : DO w' t z us bl2) :
    DO w' (.sl e t) (xs.set i z) [v] ((blkV v).toList ++ (bls.set i bl2).flatten) := by
  refine ⟨v, vs.take (i * sz t) ++ us ++ vs.drop ((i + 1) * sz t), bls.set i bl2, rfl, by rw [List.length_set]; exact hown, by rw [List.length_set]; exact hown.1, by simp [hbl], fun j hj => ?_, rfl⟩
  rw [List.length_set] at hj
  rw [seg_at vs us xs.length i j (sz t) hi hj hvl (DO_len hz), List.getElem_set]
  by_cases hji : i = j
  · subst hji
    rw [if_pos rfl, if_pos rfl, List.getD_eq_getElem?_getD, List.getElem?_set_self (by omega)]
    exact hz
  · rw [if_neg hji, if_neg (Ne.symm hji), List.getD_eq_getElem?_getD, List.getElem?_set_ne hji, ← List.getD_eq_getElem?_getD]
    exact DO_mono (hw j (Ne.symm hji) hj) (hr j hj)
theorem mem_getD {bls : List (List Nat)} {j b : Nat} (h : b ∈ bls.getD j []) : b ∈ bls.flatten := by
  rw [List.getD_eq_getElem?_getD] at h
  cases hg : bls[j]? with
  | none => rw [hg] at h; cases h
  | some l => rw [hg] at h; exact List.mem_flatten.2 ⟨l, List.mem_of_getElem? hg, h⟩
end
section
variable {w0 w : World} {T Fz0 Fz U : Nat → Prop} {h : Hp} {ρ : Nat → Option Value}
theorem ObjRep_nodup {w : World} {ρ : Nat → Option Value} {Fz : Nat → Prop} {v : Value} : ∀ {o : Obj}, o.wr = true → ObjRep w ρ Fz v o → (blksV v).Nodup
  | .box ty cs, _, h => by obtain ⟨g, cv, rfl, _⟩ := h; simp [blksV, blkV]
  | .own e t xs, _, h => by
    obtain ⟨vs, ho, _⟩ := h
    rw [own_blks ho]
    cases blkV v <;> simp
  | .fro e t xs, hw, h => by simp [Obj.wr] at hw
  | .mp T n es, _, h => by obtain ⟨g, arr, rfl, _⟩ := h; simp [blksV, blkV]
  | .mq T t es, _, h => by obtain ⟨g, rfl, _⟩ := h; simp [blksV, blkV]
  | .dp e t xs, _, h => by obtain ⟨u, bl, rfl, _, hn⟩ := h; rw [ghost_blks]; exact hn
  | .dh e t xs i off nm, _, h => by obtain ⟨u, b1, b2, uu, rfl, _, hn, _⟩ := h; rw [ghost_blks]; exact hn
theorem bl_nodup (Rm : RelM w0 T Fz0 U h ρ Fz w) : ∀ (l : List Nat), l.Nodup → (∀ id ∈ l, ∃ ob, h id = some ob ∧ ob.wr = true) → (l.flatMap fun id => (ρ id).toList.flatMap blksV).Nodup ∧ ∀ b ∈ (l.flatMap fun id => (ρ id).toList.flatMap blksV), ∃ id ∈ l, Live h ρ id b
  | [], _, _ => ⟨by simp, (by intro b hb; cases hb)⟩
  | id :: l, hn, ho => by
    obtain ⟨hn1, hn2⟩ := List.nodup_cons.1 hn
    obtain ⟨h1, h2⟩ := bl_nodup Rm l hn2 fun i hi => ho i (List.mem_cons_of_mem _ hi)
    obtain ⟨ob, hh, hwr⟩ := ho id List.mem_cons_self
    have hmem : ∀ b, b ∈ (ρ id).toList.flatMap blksV → Live h ρ id b := by
      intro b hb
      cases hρ : ρ id with
      | none => rw [hρ] at hb; cases hb
      | some v => rw [hρ] at hb; exact ⟨ob, v, hh, hwr, hρ, mem_blksV.1 (by simpa using hb)⟩
    refine ⟨?_, fun b hb => ?_⟩
    · rw [List.flatMap_cons]
      refine List.nodup_append.2 ⟨?_, h1, fun b hb b' hb' he => ?_⟩
      · obtain ⟨v, hv, hrep⟩ := Rm.objs id ob hh
        rw [hv]
        simpa using ObjRep_nodup hwr hrep
      · subst he
        obtain ⟨id', hi', hl'⟩ := h2 b hb'
        have := Rm.dis id id' b (hmem b hb) hl'
        subst this
        exact hn1 hi'
    · rw [List.flatMap_cons] at hb
      rcases List.mem_append.1 hb with hb | hb
      · exact ⟨id, List.mem_cons_self, hmem b hb⟩
      · obtain ⟨id', hi', hl'⟩ := h2 b hb
        exact ⟨id', List.mem_cons_of_mem _ hi', hl'⟩
/-- What moves is owned in depth; its blocks are those of the names that move. -/
theorem asDeep_DO (R : RelM w0 T Fz0 U h ρ Fz w) {e : Nat} {t : Ty} {c : AC} {v : Value} {xs : List (el t)} (hd : asDeep h e t c = some xs) (hc : ACRep w ρ Fz c v) :
    ∃ bl, DO w (.sl e t) xs [v] bl ∧ (bl = (oIds [c]).flatMap fun id => (ρ id).toList.flatMap blksV) ∧ ∀ id ∈ oIds [c], ∃ ob, h id = some ob ∧ ob.wr = true := by
  cases c with
  | nilsl =>
    have hd : xs = [] := (Option.some.inj hd).symm
    subst hd
    obtain rfl := (hc : v = .slice none 0 0)
    exact ⟨[], DO_nil, rfl, fun id hi => by cases hi⟩
  | o id =>
    simp only [asDeep] at hd
    cases hb : h id with
    | none => rw [hb] at hd; cases hd
    | some ob =>
      rw [hb] at hd
      obtain ⟨u, hid, hrep, hgv⟩ := R.oRep hb hc
      cases ob with
      | own e' t' xs' =>
        have hd : cond (flat t') ((SlV.mk e' t' xs').as e t) none = some xs := hd
        cases hf : flat t' with
        | false => rw [hf] at hd; cases hd
        | true =>
        rw [hf] at hd
        have := as_some hd; cases this
        obtain ⟨vs, ho, hr⟩ := hrep
        rw [own_gval ho] at hgv
        subst hgv
        exact ⟨_, DO_own hf ho hr, by simp [oIds, hid, own_blks ho], fun id' hi => by cases List.mem_singleton.1 hi; exact ⟨_, hb, rfl⟩⟩
      | dp e' t' xs' =>
        have := as_some hd; cases this
        obtain ⟨u', bl, rfl, h1, h2⟩ := hrep
        cases hgv
        exact ⟨bl, h1, by simp [oIds, hid, ghost_blks], fun id' hi => by cases List.mem_singleton.1 hi; exact ⟨_, hb, rfl⟩⟩
      | _ => cases hd
  | _ => simp [asDeep] at hd
theorem decD_DO (R : RelM w0 T Fz0 U h ρ Fz w) : ∀ (t : Ty) (acs : List AC) (x : el t) (rest : List AC) (vs : List Value), decD h t acs = some (x, rest) → All2 (ACRep w ρ Fz) acs vs →
    ∃ used c1 c2 bl, acs = used ++ rest ∧ vs = c1 ++ c2 ∧ All2 (ACRep w ρ Fz) rest c2 ∧ DO w t x c1 bl ∧ (bl = (oIds used).flatMap fun id => (ρ id).toList.flatMap blksV) ∧ ∀ id ∈ oIds used, ∃ ob, h id = some ob ∧ ob.wr = true
  | .int k, acs, x, rest, vs, hd, ha => by
    have := dec_int hd; subst this
    obtain ⟨v, vs, rfl, rfl, h2⟩ := all2_cons ha
    exact ⟨[_], [_], vs, [], rfl, rfl, h2, ⟨rfl, rfl⟩, rfl, fun id hi => by cases hi⟩
  | .bool, acs, x, rest, vs, hd, ha => by
    have := dec_bool hd; subst this
    obtain ⟨v, vs, rfl, rfl, h2⟩ := all2_cons ha
    exact ⟨[_], [_], vs, [], rfl, rfl, h2, ⟨rfl, rfl⟩, rfl, fun id hi => by cases hi⟩
  | .str, acs, x, rest, vs, hd, ha => by
    have := dec_str hd; subst this
    obtain ⟨v, vs, rfl, rfl, h2⟩ := all2_cons ha
    exact ⟨[_], [_], vs, [], rfl, rfl, h2, ⟨rfl, rfl⟩, rfl, fun id hi => by cases hi⟩
  | .sl e t, acs, x, rest, vs, hd, ha => by
    obtain ⟨c, rfl, hr⟩ := dec_sl hd
    obtain ⟨v, vs, rfl, h1, h2⟩ := all2_cons ha
    obtain ⟨bl, h3, h4, h5⟩ := asDeep_DO R hr h1
    exact ⟨[c], [v], vs, bl, rfl, rfl, h2, h3, h4, h5⟩
  | .pair a b, acs, x, rest, vs, hd, ha => by
    simp only [decD] at hd
    cases h1 : decD h a acs with
    | none => rw [h1] at hd; cases hd
    | some p =>
      obtain ⟨x1, r1⟩ := p
      rw [h1] at hd
      simp only at hd
      cases h2 : decD h b r1 with
      | none => rw [h2] at hd; cases hd
      | some q =>
        obtain ⟨x2, r2⟩ := q
        rw [h2] at hd
        cases hd
        obtain ⟨u1, c1, c2, b1, rfl, rfl, ha1, hd1, e1, n1⟩ := decD_DO R a acs x1 r1 vs h1 ha
        obtain ⟨u2, c3, c4, b2, rfl, rfl, ha2, hd2, e2, n2⟩ := decD_DO R b r1 x2 rest c2 h2 ha1
        exact ⟨u1 ++ u2, c1 ++ c3, c4, b1 ++ b2, by rw [List.append_assoc], by rw [List.append_assoc], ha2, ⟨c1, c3, b1, b2, rfl, rfl, hd1, hd2⟩, by rw [oIds_app, List.flatMap_append, ← e1, ← e2], fun id hi => by rw [oIds_app] at hi; exact (List.mem_append.1 hi).elim (n1 id) (n2 id)⟩
  | .wrap t, acs, x, rest, vs, hd, ha => decD_DO R t acs x rest vs hd ha
  | .unit, acs, x, rest, vs, hd, ha => by
    simp only [decD, Option.some.injEq] at hd
    cases hd
    exact ⟨[], [], vs, [], rfl, rfl, ha, ⟨rfl, rfl⟩, rfl, fun id hi => by cases hi⟩
  | .ow _ _, _, _, _, _, hd, _ | .fnc _, _, _, _, _, hd, _ | .bx _ _, _, _, _, _, hd, _ | .any, _, _, _, _, hd, _ | .lk _ _, _, _, _, _, hd, _ | .fp _, _, _, _, _, hd, _ | .mq _ _, _, _, _, _, hd, _ | .om _ _, _, _, _, _, hd, _ | .dw _ _, _, _, _, _, hd, _ => by simp [decD] at hd
end
section
variable {E : Env} {w0 w : World} {T Fz0 Fz U : Nat → Prop} {h hr : Hp} {ρ : Nat → Option Value} {o : Oper} {a : Act}
theorem Done.weakU {U' : Nat → Prop} {val : TV} (d : Done E w0 T Fz0 U h ρ Fz w o a val) (hu : ∀ i, U i → U' i) : Done E w0 T Fz0 U' h ρ Fz w o a val := by
  obtain ⟨v, w', ρ', Fz', h1, h2, h3, h4⟩ := d.out
  exact ⟨v, w', ρ', Fz', h1, h2.weakU hu, h3, h4⟩
theorem sub_flat {l l' : List (List Nat)} (h : l.Sublist l') : l.flatten.Sublist l'.flatten := by
  induction h with
  | slnil => exact List.Sublist.refl _
  | cons a h ih => rw [List.flatten_cons]; exact ih.trans (List.sublist_append_right ..)
  | cons_cons a h ih => rw [List.flatten_cons, List.flatten_cons]; exact List.Sublist.append (List.Sublist.refl _) ih
theorem updF_gone (l : List Nat) : ∀ (h : Hp) (i : Nat), updF h (l.map fun k => (k, none)) i = if i ∈ l then none else h i := by
  induction l with
  | nil => intro h i; simp [updF]
  | cons k l ih =>
    intro h i
    rw [List.map_cons, updF, ih]
    by_cases h1 : i ∈ l
    · simp [h1]
    · by_cases h2 : i = k <;> simp [h1, h2]
/-- An element of a row that is owned with what is in it, or a part of one, is written. -/
theorem storeDp_core (R : RelM w0 T Fz0 U h ρ Fz w) {Tt : TypeId} {x y : Operand} (ho : o.op = .store Tt x y) {id off : Nat} {i : Int} {e : Nat} {t : Ty} {xs : List (el t)}
    (hx : ACRep w ρ Fz (.pe id (sz t) i off) (a.eval x)) (hb : h id = some (.dp e t xs)) (hi : i.toNat < xs.length) (hn : (a.eval y).cells.size = E.P.cellsOf Tt) (hpos : 0 < (a.eval y).cells.size) (hfit : off + (a.eval y).cells.size ≤ sz t)
    (h1 : ∀ u ∈ (a.eval y).cells.toList, u.oneCell' = true) {z : el t} {gn : List Nat} (hgn : id ∉ gn)
    (hz : ∀ seg sb, DO w t xs[i.toNat] seg sb → sb.Nodup → ∃ bl2, bl2.Nodup ∧ (∀ b ∈ bl2, b ∈ sb ∨ ∃ k ∈ gn, Live h ρ k b) ∧ DO w t z (seg.take off ++ (a.eval y).cells.toList ++ seg.drop (off + (a.eval y).cells.size)) bl2) :
    Done E w0 T Fz0 U (updF h (gn.map (fun k => (k, none)) ++ [(id, some (.dp e t (xs.set i.toNat z)))])) ρ Fz w o a (.tup []) := by
  obtain ⟨g, n, c, ⟨u0, hid, hgv⟩, he⟩ := (hx : ∃ g n c, (∃ u, ρ id = some u ∧ gval u = .slice (some ⟨g, 0, none⟩) n c) ∧ a.eval x = .pointer (some ⟨g, i.toNat * sz t + off, none⟩))
  obtain ⟨v', hv', v, bl, rfl, hd, hnd⟩ := R.objs id _ hb
  rw [hid] at hv'; cases hv'
  have hgv : v = .slice (some ⟨g, 0, none⟩) n c := hgv
  obtain ⟨v2, vs, bls, hv2, hown, hvl, hbl, hel, rfl⟩ := hd
  cases hv2
  subst hgv
  have hbk : (blkV (.slice (some ⟨g, 0, none⟩) n c)).toList = [g] := rfl
  rw [hbk] at hnd hid
  obtain ⟨bl2, hn2, hm2, hdz⟩ := hz _ _ (hel i.toNat hi) (by
    rw [flat_at bls i.toNat (by omega), ← List.append_assoc, ← List.append_assoc] at hnd
    exact (nodup3.1 hnd).1)
  have hlv : ∀ b ∈ [g] ++ bls.flatten, Live h ρ id b := fun b hm => ⟨_, _, hb, rfl, hid, mem_blksV.1 (by rw [ghost_blks]; exact hm)⟩
  have hlive : Live h ρ id g := hlv g (by simp)
  rcases hown.2 with ⟨hnil, _⟩ | ⟨g', cap, cur, hv, _, hg, hnc, hcm, hcs, htake⟩
  · cases hnil
  simp only [Value.slice.injEq, Option.some.injEq, Addr.mk.injEq, and_true, true_and] at hv
  obtain ⟨rfl, rfl, rfl⟩ := hv
  have hle : (i.toNat + 1) * sz t ≤ xs.length * sz t := Nat.mul_le_mul_right _ hi
  have hle' : (i.toNat + 1) * sz t = i.toNat * sz t + sz t := Nat.succ_mul ..
  have hcapsz : xs.length * sz t ≤ c * sz t := Nat.mul_le_mul_right _ hnc
  have hul : (a.eval y).cells.toList.length = (a.eval y).cells.size := Array.length_toList
  have hexe := store_exe (E := E) ho he hg hn hpos (by omega) h1
  have hgr := grow_setRow (new := (cur.toList.take (i.toNat * sz t + off) ++ (a.eval y).cells.toList ++ cur.toList.drop (i.toNat * sz t + off + (a.eval y).cells.size)).toArray) hg
  have hg2 : g ∉ bl2 := fun hm => by
    rcases hm2 g hm with hm | ⟨k, hk, hl⟩
    · exact (List.nodup_append.1 hnd).2.2 g (List.mem_singleton.2 rfl) g (mem_getD hm) rfl
    · exact hgn (R.dis _ _ _ hlive hl ▸ hk)
  have hgf : g ∉ bls.flatten := fun hm => (List.nodup_append.1 hnd).2.2 g (List.mem_singleton.2 rfl) g hm rfl
  have hwd : ∀ b, b ≠ g → (w.setRow g (cur.toList.take (i.toNat * sz t + off) ++ (a.eval y).cells.toList ++ cur.toList.drop (i.toNat * sz t + off + (a.eval y).cells.size)).toArray).heap[b]? = w.heap[b]? := fun b hb => setRow_other w g b _ hb
  have hset := flat_set bls i.toNat (by omega) bl2
  have hfl := flat_at bls i.toNat (by omega)
  obtain ⟨R', m⟩ := R.put (U' := U) (h' := updF h (gn.map (fun k => (k, none)) ++ [(id, some (.dp e t (xs.set i.toNat z)))])) hgr id (.dp e t (xs.set i.toNat z)) (ghost (.slice (some ⟨g, 0, none⟩) xs.length c) ([g] ++ (bls.set i.toNat bl2).flatten)) rfl rfl
    (fun b hb => by cases hb; exact ⟨id, hlive, .inr rfl⟩) (.inr ⟨_, hid, .inr ⟨_, _, _, rfl, rfl⟩⟩) (fun b hb => by
      have hb := mem_blksV.2 hb
      rw [ghost_blks, hset] at hb
      rcases List.mem_append.1 hb with hb | hb
      · exact .inr ⟨id, hlv b (List.mem_append_left _ hb), .inr rfl⟩
      · rcases List.mem_append.1 hb with hb | hb
        · rcases List.mem_append.1 hb with hb | hb
          · exact .inr ⟨id, hlv b (List.mem_append_right _ (by rw [hfl]; exact List.mem_append_left _ (List.mem_append_left _ hb))), .inr rfl⟩
          · rcases hm2 b hb with hb | ⟨k, hk, hl⟩
            · exact .inr ⟨id, hlv b (List.mem_append_right _ (mem_getD hb)), .inr rfl⟩
            · refine .inr ⟨k, hl, .inl ?_⟩
              have hki : k ≠ id := fun e => hgn (e ▸ hk)
              rw [updF_app, updF_not _ _ _ (by simp [hki]), updF_gone, if_pos hk]
        · exact .inr ⟨id, hlv b (List.mem_append_right _ (by rw [hfl]; exact List.mem_append_right _ hb)), .inr rfl⟩) (fun _ h => h) (R.dom id _ hid).1
    (by rw [updF_app]; simp [updF]) (fun k ob hk hob => by
      rw [updF_app, updF_not _ _ _ (by simp [hk]), updF_gone] at hob
      split at hob
      · cases hob
      · exact hob)
    ⟨_, _, rfl, by
      have := DO_rowSet (w := w) (w' := w.setRow g (cur.toList.take (i.toNat * sz t + off) ++ (a.eval y).cells.toList ++ cur.toList.drop (i.toNat * sz t + off + (a.eval y).cells.size)).toArray) (e := e) (v := .slice (some ⟨g, 0, none⟩) xs.length c) (z := z) (bl2 := bl2) hi hbl hvl
        (us := ((vs.drop (i.toNat * sz t)).take (sz t)).take off ++ (a.eval y).cells.toList ++ ((vs.drop (i.toNat * sz t)).take (sz t)).drop (off + (a.eval y).cells.size)) ?_ hel (fun j _ _ b hm => hwd b (fun e => hgf (e ▸ mem_getD hm))) (DO_mono (fun b hm => hwd b (fun e => hg2 (e ▸ hm))) hdz)
      · exact this
      · rw [← hul, seg_elem vs (a.eval y).cells.toList i.toNat (sz t) off (by omega) (by rw [hvl]; exact hle)]
        refine ⟨?_, .inr ⟨g, c, _, rfl, Nat.zero_le _, setRow_heap w g cur _ e (0, 0) hg, hnc, hcm, ?_, ?_⟩⟩
        · simp only [List.length_append, List.length_take, List.length_drop, Array.length_toList]; omega
        · simp only [List.size_toArray, List.length_append, List.length_take, List.length_drop, Array.length_toList]; omega
        · have hseg := seg_take cur.toList (a.eval y).cells.toList (i.toNat * sz t + off) (xs.length * sz t) (by omega) (by have h9 : cur.toList.length = cur.size := Array.length_toList; omega)
          rw [htake] at hseg
          simp only [Array.length_toList] at hseg ⊢
          exact hseg, by
      rw [hset]
      rw [hfl] at hnd
      rw [← List.append_assoc, ← List.append_assoc] at hnd ⊢
      obtain ⟨q1, q2, q3⟩ := nodup3.1 hnd
      refine nodup3.2 ⟨hn2, q2, fun b hb hm => ?_⟩
      rcases hm2 b hb with hb' | ⟨k, hk, hl⟩
      · exact q3 b hb' hm
      · have hl' : Live h ρ id b := hlv b (by
          rw [hfl]
          rcases List.mem_append.1 hm with hm | hm
          · rcases List.mem_append.1 hm with hm | hm
            · exact List.mem_append_left _ hm
            · exact List.mem_append_right _ (List.mem_append_left _ (List.mem_append_left _ hm))
          · exact List.mem_append_right _ (List.mem_append_right _ hm))
        exact hgn (R.dis _ _ _ hl' hl ▸ hk)⟩
  exact ⟨_, _, _, Fz, .inr ⟨hexe, rfl⟩, R', m, ⟨#[], rfl, trivial⟩⟩
theorem Cw_sca (R : RelM w0 T Fz0 U h ρ Fz w) : ∀ {us : List AC} {uv : List Value}, us.all isSca = true → All2 (ACRep w ρ Fz) us uv → Cw w us uv (List.replicate us.length [])
  | [], uv, _, ha => by
    cases uv with
    | nil => trivial
    | cons => exact ha.elim
  | u :: us, uv, hs, ha => by
    obtain ⟨v, uv, rfl, h1, h2⟩ := all2_cons ha
    rw [List.all_cons, Bool.and_eq_true] at hs
    refine ⟨?_, Cw_sca R hs.2 h2⟩
    cases u with
    | int k n => exact ⟨h1, rfl⟩
    | bool b => exact ⟨h1, rfl⟩
    | str s => exact ⟨h1, rfl⟩
    | _ => simp [isSca] at hs
theorem sca_len (us : List AC) (hs : us.all isSca = true) : us.any AC.isU = false := by
  induction us with
  | nil => rfl
  | cons u us ih =>
    rw [List.all_cons, Bool.and_eq_true] at hs
    rw [List.any_cons, ih hs.2]
    cases u <;> simp [isSca, AC.isU] at hs ⊢
theorem storeDp_ok (R : RelM w0 T Fz0 U h ρ Fz w) (hsub : ∀ id ob, hr id = some ob → h id = some ob) {Tt : TypeId} {x y : Operand} (ho : o.op = .store Tt x y) {id off : Nat} {i : Int} {e : Nat} {t : Ty} {xs : List (el t)}
    (hx : ACRep w ρ Fz (.pe id (sz t) i off) (a.eval x)) (hb : hr id = some (.dp e t xs)) {yv : AV} (hy : AVRep w ρ Fz yv (a.eval y)) (hu : yv.cells.any AC.isU = false)
    {q : SR} (hq : storeDp hr (E.P.cellsOf Tt) id i off e t xs yv.cells = some q) (hc : ∀ c ∈ q.conds, c = true) (z : el q.τ) :
    Done E w0 T Fz0 (fun k => U k ∨ k ∈ (q.upd z).map (·.1)) (updF h (q.upd z)) ρ Fz w o a (q.val z) := by
  have hyc := AV_cells' R hy hu
  have hl1 : (a.eval y).cells.size = yv.cells.length := by have := hyc.len; simpa using this.symm
  have hone := cells_known R hyc hu
  have hb0 := hsub id _ hb
  unfold storeDp at hq
  cases hsc : yv.cells.all isSca with
  | true =>
    rw [hsc] at hq
    simp only [cond_true] at hq
    replace hq := cond_some hq
    obtain ⟨hcnd, hq⟩ := hq
    simp only [Bool.and_eq_true] at hcnd
    obtain ⟨⟨h1, h2⟩, h3⟩ := hcnd
    have h1 := Nat.eq_of_beq_eq_true h1
    have h2 := Nat.le_of_ble_eq_true h2
    have h3 := Nat.le_of_ble_eq_true h3
    split at hq
    · rename_i zz hd
      have hi : i.toNat < xs.length := by cases hb9 : Nat.beq yv.cells.length (sz t) <;> rw [hb9] at hq <;> cases hq <;> simpa using hc _ (List.mem_singleton.2 rfl)
      rw [putE_eq hi hd, cond_same] at hq
      cases hq
      have := storeDp_core (E := E) (z := zz) (gn := []) R ho hx hb0 hi (by rw [hl1, h1]) (by omega) (by omega) hone (by simp) (fun seg sb hdo hnd => by
        obtain ⟨cb, hcw, rfl⟩ := DO_cells hdo
        rw [getD_get _ _ _ hi] at hd
        have hcl : (cells t xs[i.toNat]).length = sz t := cells_len ..
        have hw := Cw_setAt yv.cells _ _ (cells t xs[i.toNat]) seg cb off (Cw_sca R hsc hyc) hcw (by rw [hcl]; omega)
        rw [Array.length_toList, List.length_replicate] at hw
        have hfl : ∀ n, (List.replicate n ([] : List Nat)).flatten = [] := by
          intro n
          induction n with
          | zero => rfl
          | succ n ih => rw [List.replicate_succ, List.flatten_cons, ih]; rfl
        have hbl : (cb.take off ++ List.replicate yv.cells.length [] ++ cb.drop (off + yv.cells.length)).flatten = (cb.take off ++ cb.drop (off + yv.cells.length)).flatten := by
          rw [List.flatten_append, List.flatten_append, hfl, List.append_nil, List.flatten_append]
        have hsl : ((cb.take off ++ cb.drop (off + yv.cells.length)).flatten).Sublist cb.flatten := by
          refine sub_flat ?_
          conv => rhs; rw [← List.take_append_drop off cb]
          refine List.Sublist.append (List.Sublist.refl _) ?_
          rw [← List.drop_drop]
          exact List.drop_sublist ..
        refine ⟨_, hbl ▸ hsl.nodup hnd, fun b hm => .inl (hsl.mem (hbl ▸ hm)), ?_⟩
        exact decAll_DO hd hw)
      exact this.weakU fun k hk => .inl hk
    · cases hq
  | false =>
    rw [hsc] at hq
    simp only [cond_false] at hq
    replace hq := cond_some hq
    obtain ⟨hcnd, hq⟩ := hq
    simp only [Bool.and_eq_true] at hcnd
    obtain ⟨⟨⟨⟨h1, h2⟩, h3⟩, h4⟩, h5⟩ := hcnd
    have h1 := Nat.eq_of_beq_eq_true h1
    have h2 := Nat.le_of_ble_eq_true h2
    have h3 := Nat.eq_of_beq_eq_true h3
    have h4 := Nat.eq_of_beq_eq_true h4
    have hnd := nodupB_nodup h5
    rw [List.nodup_cons] at hnd
    subst h3
    split at hq
    · rename_i zz hd
      cases hq
      have hi : i.toNat < xs.length := by simpa using hc _ (List.mem_singleton.2 rfl)
      have := storeDp_core (E := E) (z := zz) (gn := oIds yv.cells) R ho hx hb0 hi (by rw [hl1, h1]) (by omega) (by omega) hone hnd.1 (fun seg sb hdo hnb => by
        obtain ⟨used, c1, c2, bl, e1, e2, ha2, hdd, rfl, hob⟩ := decD_DO (R.less hsub) t yv.cells zz [] _ hd hyc
        rw [List.append_nil] at e1
        have : c2 = [] := List.eq_nil_of_length_eq_zero (by simpa using ha2.len.symm)
        subst this
        rw [List.append_nil] at e2
        rw [← e1] at hob hdd
        obtain ⟨q1, q2⟩ := bl_nodup (R.less hsub) (oIds yv.cells) hnd.2 hob
        refine ⟨_, q1, fun b hm => .inr ?_, ?_⟩
        · obtain ⟨k, hk, ob, v, a1, a2⟩ := q2 b hm
          exact ⟨k, hk, ob, v, hsub k ob a1, a2⟩
        · have hsl := DO_len hdo
          rw [List.take_zero, List.nil_append, Nat.zero_add, List.drop_eq_nil_of_le (by omega), List.append_nil, e2]
          exact hdd)
      exact this.weakU fun k hk => .inl hk
    · cases hq
theorem load_one {Tt : TypeId} {acs : List AC} {off : Nat} {c : AC} (hp : partC E Tt acs off = some (.one c)) : acs[off]? = some c ∧ ∀ ad v, w.cell? ad = some v → (loadVar Tt ad).run E.P w = .ok v w := by
  unfold partC at hp
  cases ht : E.P.underlying Tt with
  | none => rw [ht] at hp; cases hp
  | some d =>
    rw [ht] at hp
    simp only at hp
    cases hag : isAggT E Tt with
    | true =>
      rw [hag] at hp
      simp only [cond_true] at hp
      cases hle : Nat.ble (off + E.P.cellsOf Tt) acs.length <;> rw [hle] at hp <;> cases hp
    | false =>
      rw [hag] at hp
      simp only [cond_false] at hp
      cases hg : acs[off]? with
      | none => rw [hg] at hp; cases hp
      | some c =>
        rw [hg] at hp
        cases hp
        refine ⟨rfl, fun ad v hv => ?_⟩
        unfold loadVar
        simp only [Sem.run_bind, isAgg_run ht, hag, Result.andThen_ok, if_false, Bool.false_eq_true]
        simp [hv]
theorem DO_flatK : ∀ {t : Ty} {x : el t} {cs : List Value} {bl : List Nat}, flat t = true → DO w t x cs bl → KI w Fz t x cs ∧ bl = []
  | .int _, _, _, _, _, h => h
  | .bool, _, _, _, _, h => h
  | .str, _, _, _, _, h => h
  | .unit, _, _, _, _, h => h
  | .wrap t, _, _, _, hf, h => DO_flatK (t := t) (by simpa [flat] using hf) h
  | .pair a b, x, _, _, hf, h => by
    obtain ⟨c1, c2, b1, b2, rfl, rfl, h1, h2⟩ := h
    simp only [flat, Bool.and_eq_true] at hf
    obtain ⟨k1, rfl⟩ := DO_flatK hf.1 h1
    obtain ⟨k2, rfl⟩ := DO_flatK hf.2 h2
    exact ⟨⟨c1, c2, rfl, k1, k2⟩, rfl⟩
  | .sl _ _, _, _, _, hf, _ => by simp [flat] at hf
theorem DO_flat_own {e : Nat} {t : Ty} {xs : List (el t)} {v : Value} {b : List Nat} (hf : flat t = true) (h : DO w (.sl e t) xs [v] b) : (∃ vs, w.ownsRow 0 e (sz t) v xs.length vs ∧ Rows w Fz t xs vs) ∧ b = (blkV v).toList := by
  obtain ⟨v', vs, bls, hv, hown, hvl, hbl, hel, rfl⟩ := h
  cases hv
  refine ⟨⟨vs, hown, hvl, fun i hi => (DO_flatK hf (hel i hi)).1⟩, ?_⟩
  have : bls.flatten = [] := by
    rw [List.flatten_eq_nil_iff]
    intro l hl
    obtain ⟨j, hj, rfl⟩ := List.mem_iff_getElem.1 hl
    have := (DO_flatK (Fz := fun _ => True) hf (hel j (by omega))).2
    rwa [List.getD_eq_getElem?_getD, List.getElem?_eq_getElem hj] at this
  rw [this, List.append_nil]
theorem Cw_swap {w' : World} {c' : AC} {v : Value} {b' : List Nat} : ∀ {cs : List AC} {vs : List Value} {bs : List (List Nat)} {off : Nat}, Cw w cs vs bs → vs[off]? = some v → DC w' c' v b' →
    (∀ k ∈ (bs.take off).flatten ++ (bs.drop (off + 1)).flatten, w'.heap[k]? = w.heap[k]?) → Cw w' (cs.set off c') vs (bs.set off b')
  | [], _, _, off, h, hv, _, _ => by obtain ⟨rfl, rfl⟩ := Cw_nil h; simp at hv
  | c :: cs, _, _, off, h, hv, hd, hk => by
    obtain ⟨v0, vs, b, bs, rfl, rfl, h1, h2⟩ := Cw_cons h
    cases off with
    | zero =>
      simp only [List.getElem?_cons_zero, Option.some.injEq] at hv
      subst hv
      exact ⟨hd, Cw_mono (fun k hm => hk k (by simpa using hm)) h2⟩
    | succ off =>
      refine ⟨DC_mono (fun k hm => hk k ?_) h1, Cw_swap h2 (by simpa using hv) hd fun k hm => hk k ?_⟩
      · rw [List.take_succ_cons, List.flatten_cons, List.append_assoc]
        exact List.mem_append_left _ hm
      · rw [List.take_succ_cons, List.flatten_cons, List.append_assoc, List.drop_succ_cons]
        exact List.mem_append_right _ hm
theorem loadDp_ok (R : RelM w0 T Fz0 U h ρ Fz w) (hsub : ∀ id ob, hr id = some ob → h id = some ob) {next : Nat} {Tt : TypeId} {x : Operand} (ho : o.op = .load Tt x) {id off : Nat} {i : Int} {e : Nat} {t : Ty} {xs : List (el t)}
    (hx : ACRep w ρ Fz (.pe id (sz t) i off) (a.eval x)) (hb : hr id = some (.dp e t xs))
    {q : SR} (hq : loadDp next id i off e t xs (partC E Tt (cells t (xs.getD i.toNat (dflt t))) off) = some q) (hc : ∀ c ∈ q.conds, c = true) (z : el q.τ) (hnew : ∀ k ∈ (q.upd z).map (·.1), next ≤ k → ¬ U k) :
    Done E w0 T Fz0 (fun k => U k ∨ k ∈ (q.upd z).map (·.1)) (updF h (q.upd z)) ρ Fz w o a (q.val z) := by
  have hb0 := hsub id _ hb
  obtain ⟨g, n, c0, ⟨u0, hid, hgv⟩, he⟩ := (hx : ∃ g n c, (∃ u, ρ id = some u ∧ gval u = .slice (some ⟨g, 0, none⟩) n c) ∧ a.eval x = .pointer (some ⟨g, i.toNat * sz t + off, none⟩))
  obtain ⟨v', hv', u, bl, rfl, hd, hnd⟩ := R.objs id _ hb0
  rw [hid] at hv'; cases hv'
  have hgv : u = .slice (some ⟨g, 0, none⟩) n c0 := hgv
  obtain ⟨v2, vs, bls, hv2, hown, hvl, hbl, hel, rfl⟩ := hd
  cases hv2
  subst hgv
  have hbk : (blkV (.slice (some ⟨g, 0, none⟩) n c0)).toList = [g] := rfl
  rw [hbk] at hnd hid
  unfold loadDp at hq
  split at hq
  · rename_i e' t' ys hp
    cases hq
    have hi : i.toNat < xs.length := by simpa using hc _ (List.mem_singleton.2 rfl)
    obtain ⟨hco, hld⟩ := load_one (w := w) hp
    rw [getD_get _ _ _ hi] at hco
    obtain ⟨cb, hcw, hcb⟩ := DO_cells (hel i.toNat hi)
    obtain ⟨v, b, hv, hbb, hdc⟩ := Cw_get hcw hco
    have hdc' : DO w (.sl e' t') ys [v] b := hdc
    obtain ⟨hone, hgvv⟩ := DO_one hdc'
    have hoff : off < cb.length := (List.getElem?_eq_some_iff.1 hbb).1
    have hbd : cb.getD off [] = b := by rw [List.getD_eq_getElem?_getD, hbb]; rfl
    have hcell : w.cell? ⟨g, i.toNat * sz t + off, none⟩ = some v := by
      rw [List.getElem?_take] at hv
      split at hv
      · rw [List.getElem?_drop] at hv
        have := hown.cells (g := g) rfl _ v hv
        rw [Addr.add_lit, Nat.zero_add] at this
        exact this
      · cases hv
    -- the blocks
    have hfl := flat_at bls i.toNat (by omega)
    rw [hcb, flat_at cb off hoff, hbd] at hfl
    obtain ⟨b1, hb1⟩ : ∃ b1, b1 = [g] ++ ((bls.take i.toNat).flatten ++ (cb.take off).flatten) := ⟨_, rfl⟩
    obtain ⟨b2, hb2⟩ : ∃ b2, b2 = (cb.drop (off + 1)).flatten ++ (bls.drop (i.toNat + 1)).flatten := ⟨_, rfl⟩
    have hall : [g] ++ bls.flatten = b1 ++ b ++ b2 := by rw [hfl, hb1, hb2]; simp only [List.append_assoc]
    rw [hall] at hnd hid
    obtain ⟨q1, q2, q3⟩ := nodup3.1 hnd
    have hlv : ∀ k ∈ b1 ++ b ++ b2, Live h ρ id k := fun k hm => ⟨_, _, hb0, rfl, hid, mem_blksV.1 (by rw [ghost_blks]; exact hm)⟩
    have hnU : ¬ U next := hnew next (by simp [SR.now]) (Nat.le_refl _)
    have hne : id ≠ next := fun e => hnU (e ▸ (R.dom id _ hid).1)
    obtain ⟨v2, hv2, hv21, hv22, hv23, hrep⟩ : ∃ v2, v2 = cond (flat t') v (ghost v b) ∧ gval v2 = v ∧ v2.oneCell' = true ∧ blksV v2 = b ∧ ∀ ρ', ObjRep w ρ' Fz v2 (cond (flat t') (.own e' t' ys) (.dp e' t' ys)) := by
      cases hf : flat t' with
      | true =>
        obtain ⟨⟨vs', ho', hr'⟩, hb'⟩ := DO_flat_own (Fz := Fz) hf hdc'
        exact ⟨v, rfl, hgvv, hone, by rw [own_blks ho', hb'], fun _ => ⟨vs', ho', hr'⟩⟩
      | false => exact ⟨ghost v b, rfl, rfl, rfl, ghost_blks _ _, fun _ => ⟨v, b, rfl, hdc', q1⟩⟩
    obtain ⟨R', m⟩ := R.two (U' := fun k => U k ∨ k = id ∨ k = next) (h' := updF h [(id, some (.dh e t xs i.toNat off next)), (next, some (cond (flat t') (.own e' t' ys) (.dp e' t' ys)))]) id next hne (.dh e t xs i.toNat off next) (some (cond (flat t') (.own e' t' ys) (.dp e' t' ys)))
      (ghost (.slice (some ⟨g, 0, none⟩) n c0) (b1 ++ b2)) v2 rfl hv22 ⟨_, hid, .inr ⟨_, _, _, rfl, rfl⟩⟩ (.inl (by
        cases hρ : ρ next with
        | none => rfl
        | some v => exact absurd (R.dom next v hρ).1 hnU))
      (fun k hk => ⟨id, .inl rfl, hlv k (by
        rcases hk with hk | ⟨_, hk⟩
        · have := mem_blksV.2 hk
          rw [ghost_blks] at this
          rcases List.mem_append.1 this with h | h
          · exact List.mem_append_left _ (List.mem_append_left _ h)
          · exact List.mem_append_right _ h
        · have := mem_blksV.2 hk
          rw [hv23] at this
          exact List.mem_append_left _ (List.mem_append_right _ this))⟩)
      (fun _ k hk hk' => by
        have h1 := mem_blksV.2 hk
        have h2 := mem_blksV.2 hk'
        rw [ghost_blks] at h1
        rw [hv23] at h2
        exact q3 k h2 h1)
      (fun _ h => .inl h) (.inr (.inr rfl)) (by simp [updF, hne]) (by simp [updF]) (fun k ob h1 h2 hob => by simpa [updF, h1, h2] using hob)
      ⟨_, b1, b2, v2, rfl, by simp [hne.symm], q2, fun w' c' b' y hw hdc2 hdec => by
        rw [hv21] at hdc2
        rw [getD_get _ _ _ hi] at hdec
        have hset : setAt (cells t xs[i.toNat]) off [c'] = (cells t xs[i.toNat]).set off c' := rfl
        rw [hset] at hdec
        have hmem1 : ∀ k, k ∈ (cb.take off).flatten ++ (cb.drop (off + 1)).flatten → k ∈ b1 ++ b2 := fun k hm => by
          rw [hb1, hb2]
          rcases List.mem_append.1 hm with hm | hm
          · exact List.mem_append_left _ (List.mem_append_right _ (List.mem_append_right _ hm))
          · exact List.mem_append_right _ (List.mem_append_left _ hm)
        have hcw2 := Cw_swap hcw hv hdc2 (fun k hm => hw k (hmem1 k hm))
        have hdz := decAll_DO hdec hcw2
        have hseg : vs.take (i.toNat * sz t) ++ (vs.drop (i.toNat * sz t)).take (sz t) ++ vs.drop ((i.toNat + 1) * sz t) = vs := by
          rw [Nat.succ_mul, ← List.drop_drop, List.append_assoc, List.take_append_drop, List.take_append_drop]
        have hown2 : w'.ownsRow 0 e (sz t) (.slice (some ⟨g, 0, none⟩) n c0) xs.length (vs.take (i.toNat * sz t) ++ (vs.drop (i.toNat * sz t)).take (sz t) ++ vs.drop ((i.toNat + 1) * sz t)) := by
          rw [hseg]
          refine ⟨hown.1, ?_⟩
          rcases hown.2 with hnil | ⟨g', cap, cur, hv, hbg, hgg, rest⟩
          · exact .inl hnil
          · have : g' = g := by simp at hv; exact hv.1.symm
            subst this
            exact .inr ⟨g', cap, cur, hv, hbg, (hw g' (by rw [hb1]; simp)).trans hgg, rest⟩
        have hfin := DO_rowSet hi hbl hvl hown2 hel (fun j hj hjl k hm => hw k (by
          rw [hb1, hb2]
          have hm' : k ∈ (bls.take i.toNat).flatten ∨ k ∈ (bls.drop (i.toNat + 1)).flatten := by
            rw [List.getD_eq_getElem?_getD, List.getElem?_eq_getElem (by omega), Option.getD_some] at hm
            rcases Nat.lt_or_gt_of_ne hj with hlt | hgt
            · exact .inl (List.mem_flatten.2 ⟨bls[j], by rw [List.mem_take_iff_getElem]; exact ⟨j, by omega, rfl⟩, hm⟩)
            · refine .inr (List.mem_flatten.2 ⟨bls[j], ?_, hm⟩)
              rw [List.mem_drop_iff_getElem]
              exact ⟨j - (i.toNat + 1), by omega, by congr 1; omega⟩
          rcases hm' with hm' | hm'
          · exact List.mem_append_left _ (List.mem_append_right _ (List.mem_append_left _ hm'))
          · exact List.mem_append_right _ (List.mem_append_right _ hm'))) hdz
        rw [flat_set _ _ (by omega), flat_set _ _ hoff, hbk] at hfin
        rw [hb1, hb2]
        simpa only [List.append_assoc] using hfin⟩
      (fun ob hob => by cases hob; exact hrep _)
    refine (Done.mk ⟨v, w, _, Fz, .inl (load_exe ho he (hld _ _ hcell)), R'.weakU (fun k hk => ?_), m, ⟨v2, by simp [hne.symm], hv21, hone⟩⟩)
    rcases hk with hk | rfl | rfl
    · exact .inl hk
    · exact .inr (by simp [SR.now])
    · exact .inr (by simp [SR.now])
  · rename_i c hns hp
    replace hq := cond_some hq
    obtain ⟨hs, hq⟩ := hq
    cases hq
    have hi : i.toNat < xs.length := by simpa using hc _ (List.mem_singleton.2 rfl)
    obtain ⟨hco, hld⟩ := load_one (w := w) hp
    rw [getD_get _ _ _ hi] at hco
    obtain ⟨cb, hcw, hcb⟩ := DO_cells (hel i.toNat hi)
    obtain ⟨v, b, hv, hbb, hdc⟩ := Cw_get hcw hco
    have hcell : w.cell? ⟨g, i.toNat * sz t + off, none⟩ = some v := by
      rw [List.getElem?_take] at hv
      split at hv
      · rw [List.getElem?_drop] at hv
        have := hown.cells (g := g) rfl _ v hv
        rw [Addr.add_lit, Nat.zero_add] at this
        exact this
      · cases hv
    have hrep : ACRep w ρ Fz c v := by
      cases c with
      | int k n => exact hdc.1
      | bool q => exact hdc.1
      | str s => exact hdc.1
      | _ => simp [isSca] at hs
    exact (Done.same R (val := .v (.one c)) (load_exe ho he (hld _ _ hcell)) hrep).weakU fun k hk => .inl hk
  · cases hq
theorem joinPut_ok (R : RelM w0 T Fz0 U h ρ Fz w) {id e : Nat} {t : Ty} {xs : List (el t)} {i off nm e' : Nat} {t' : Ty} {ys : List (el t')} (hb : h id = some (.dh e t xs i off nm)) {ob : Obj} (hob : h nm = some ob) (hne : id ≠ nm) (hwr : ob.wr = true)
    (hrep : ∀ v, ρ nm = some v → ObjRep w ρ Fz v ob → DO w (.sl e' t') ys [gval v] (blksV v)) :
    ∃ ρ', RelM w0 T Fz0 U (updF h (joinPut e t xs i off id nm (.sl e' t' ys))) ρ' Fz w ∧ Mono w ρ Fz w ρ' Fz := by
  unfold joinPut
  split
  · rename_i y hd
    obtain ⟨v', hv', u, b1, b2, uu, rfl, hnm, hnd, hk⟩ := R.objs id _ hb
    obtain ⟨v2, hv2, hrep2⟩ := R.objs nm _ hob
    rw [hnm] at hv2; cases hv2
    have hdo := hk w (.sl e' t' ys) (blksV uu) y (fun _ _ => rfl) (hrep uu hnm hrep2) hd
    have hset : xs.modify i (modF noH t off [.sl e' t' ys]) = xs.set i y := by
      rcases Nat.lt_or_ge i xs.length with hi | hi
      · exact putE_eq hi hd
      · rw [List.set_eq_of_length_le hi, List.modify_eq_self hi]
    rw [hset]
    have hl1 : ∀ k ∈ b1 ++ b2, Live h ρ id k := fun k hm => ⟨_, _, hb, rfl, hv', mem_blksV.1 (by rw [ghost_blks]; exact hm)⟩
    have hl2 : ∀ k ∈ blksV uu, Live h ρ nm k := fun k hm => ⟨_, _, hob, hwr, hnm, mem_blksV.1 hm⟩
    have hnd3 : (b1 ++ blksV uu ++ b2).Nodup := nodup3.2 ⟨ObjRep_nodup hwr hrep2, hnd, fun k h1 h2 => hne (R.dis _ _ _ (hl1 k h2) (hl2 k h1))⟩
    obtain ⟨R', m⟩ := R.two (U' := U) (h' := updF h [(nm, none), (id, some (.dp e t (xs.set i y)))]) id nm hne (.dp e t (xs.set i y)) none (ghost u (b1 ++ blksV uu ++ b2)) uu rfl (R.dom nm uu hnm).2 ⟨_, hv', .inr ⟨_, _, _, rfl, rfl⟩⟩ (.inr ⟨_, hnm, .inl rfl⟩)
      (fun k hk => by
        rcases hk with hk | ⟨hk, _⟩
        · have := mem_blksV.2 hk
          rw [ghost_blks] at this
          rcases List.mem_append.1 this with hm | hm
          · rcases List.mem_append.1 hm with hm | hm
            · exact ⟨id, .inl rfl, hl1 k (List.mem_append_left _ hm)⟩
            · exact ⟨nm, .inr rfl, hl2 k hm⟩
          · exact ⟨id, .inl rfl, hl1 k (List.mem_append_right _ hm)⟩
        · cases hk)
      (fun h => by cases h) (fun _ h => h) (R.dom nm uu hnm).1 (by simp [updF]) (by simp [updF, hne.symm]) (fun k ob h1 h2 hob => by simpa [updF, h1, h2] using hob)
      ⟨u, _, rfl, hdo, hnd3⟩ (fun _ h => by cases h)
    exact ⟨_, R', m⟩
  · exact ⟨ρ, R, Mono.refl ..⟩
theorem joinU_ok (R : RelM w0 T Fz0 U h ρ Fz w) (id : Nat) : ∃ ρ', RelM w0 T Fz0 U (updF h (joinU h id (h id))) ρ' Fz w ∧ Mono w ρ Fz w ρ' Fz := by
  unfold joinU
  split
  · rename_i e t xs i off nm hb
    split
    · rename_i e' t' ys hob
      cases hf : flat t' with
      | false => exact ⟨ρ, R, Mono.refl ..⟩
      | true =>
        refine joinPut_ok R hb hob (fun h => by rw [h] at hb; rw [hb] at hob; cases hob) rfl fun v hv hr => ?_
        obtain ⟨vs, ho, hrows⟩ := hr
        rw [own_gval ho, own_blks ho]
        exact DO_own hf ho hrows
    · rename_i e' t' ys hob
      refine joinPut_ok R hb hob (fun h => by rw [h] at hb; rw [hb] at hob; cases hob) rfl fun v hv hr => ?_
      obtain ⟨u, bl, rfl, hd, hn⟩ := hr
      rw [ghost_blks]
      exact hd
    · exact ⟨ρ, R, Mono.refl ..⟩
  · exact ⟨ρ, R, Mono.refl ..⟩
theorem appZ_ok (EOK : EnvOk E) (R : RelM w0 T Fz0 U h ρ Fz w) {next : Nat} (hn : ¬ U next) {s x : Operand} {Tt Tt' : TypeId}
    (ho : o.op = .call { callee := .builtin .append, args := #[s, x], argTypes := #[Tt, Tt'] }) {sv xv : TV} (hs : TVRep w ρ Fz sv (a.eval s)) (hx : TVRep w ρ Fz xv (a.eval x))
    {q : SR} (hq : appZ E next Tt Tt' sv xv = some q) (hc : ∀ c ∈ q.conds, c = true) (y : el q.τ) :
    Done E w0 T Fz0 (fun i => U i ∨ i = next) (updF h (q.upd y)) ρ Fz w o a (q.val y) := by
  unfold appZ at hq
  split at hq
  · rename_i kn e t hu' he
    split at hq
    · rename_i k n
      cases hq
      have hs : a.eval s = .slice none 0 0 := hs
      have hx : a.eval x = .int k n := hx
      have c1 := of_decide_eq_true (hc (decide (1 ≤ n)) (by simp [SR.now]))
      have c2 := of_decide_eq_true (hc (decide (n.toNat * E.P.bytesOf e ≤ 140737488351232)) (by simp [SR.now]))
      obtain ⟨hu, hty⟩ := elemOf_some he
      have ok := EOK e t hty
      obtain ⟨i, z, hi, hz, hz0⟩ := ok.zero
      have hsz : i.size = sz t := by rw [← ok.sz]; simp [Program.cellsOf, hi]
      have hby : E.P.bytesOf e = i.bytes := by simp [Program.bytesOf, hi]
      have hzs : z.cells.size = sz t := by have := KI_len (hz0 w Fz); simpa using this
      obtain ⟨m, rfl⟩ : ∃ m : Nat, n = m := ⟨n.toNat, (Int.toNat_of_nonneg (by omega)).symm⟩
      simp only [Int.toNat_natCast] at c2 ⊢
      have hlen : m ≤ m * E.P.bytesOf e := Nat.le_mul_of_pos_right _ ok.by1
      have hrun := Lib.run_append_nil_zeros (P := E.P) w Tt Tt' o.type e i z k kn hu hu' hi hz m (by omega) (by rw [hsz]; exact ok.pos) (by omega) (by rw [← hby]; omega)
      have hexe : (execOp a.eval o).run E.P w = .ok (.value (.slice (some ⟨w.heap.size, 0, none⟩) m (grownCap w m 0 e))) (w.drew.alloc (.cells (Builtin.zeroCells z.cells m ++ Builtin.zeroCells z.cells (grownCap w m 0 e - m)) e)) := by
        unfold execOp
        simp only [ho, resolve, invoke, builtin, Sem.run_bind, Sem.run_pure, Result.andThen_ok, List.map_toArray, List.map_cons, List.map_nil, hs, hx, hrun]
      have hge := grownCap_ge w m 0 e
      have hcm := grownCap_le_maxLen w m 0 e (by unfold maxLen; omega)
      have z1 : ∀ q, Builtin.zeroCells z.cells q = madeCells z.cells (q * z.cells.size) := fun _ => rfl
      have hsize : (Builtin.zeroCells z.cells m ++ Builtin.zeroCells z.cells (grownCap w m 0 e - m)).size = grownCap w m 0 e * sz t := by
        rw [Array.size_append, z1, z1, size_madeCells, size_madeCells, hzs, ← Nat.add_mul, show m + (grownCap w m 0 e - m) = grownCap w m 0 e from by omega]
      have htl : (Builtin.zeroCells z.cells m ++ Builtin.zeroCells z.cells (grownCap w m 0 e - m)).toList.take (m * sz t) = (List.replicate m z.cells.toList).flatten := by
        rw [Array.toList_append, z1, made_flat _ _ (by rw [hzs]; exact ok.pos)]
        have hl : m * sz t = (List.replicate m z.cells.toList).flatten.length := by simp [List.length_flatten, hzs]
        rw [hl]
        exact List.take_left
      have hrows : Rows w Fz t (List.replicate m (dflt t)) ((List.replicate m z.cells.toList).flatten) := Rows_rep (hz0 w Fz) m
      have R1 : RelM w0 T Fz0 U h ρ Fz w.drew := R.drew
      have mo := mono_alloc R1 next hn (.cells (Builtin.zeroCells z.cells m ++ Builtin.zeroCells z.cells (grownCap w m 0 e - m)) e) (.slice (some ⟨w.heap.size, 0, none⟩) m (grownCap w m 0 e))
      obtain ⟨R', m'⟩ := R1.fresh next hn (.own e t (List.replicate m (dflt t))) (.cells (Builtin.zeroCells z.cells m ++ Builtin.zeroCells z.cells (grownCap w m 0 e - m)) e) (.slice (some ⟨w.heap.size, 0, none⟩) m (grownCap w m 0 e)) rfl rfl (fun b hb => by cases hb; rfl)
        ⟨_, by
          rw [List.length_replicate]
          exact ⟨by simp [List.length_flatten, hzs], .inr ⟨w.heap.size, grownCap w m 0 e, _, rfl, Nat.zero_le _, heap_alloc_new w.drew _, hge, hcm, hsize, htl⟩⟩, Rows_mono mo.fz mo.wd (Rows_mono (w := w) (w' := w.drew) (fun _ h => h) (fun _ _ => rfl) hrows)⟩
      exact ⟨_, _, _, Fz, .inl hexe, R', Mono.trans (w' := w.drew) (show Mono w ρ Fz w.drew ρ Fz from ⟨fun _ _ e => .inl e, fun _ h => h, fun _ _ => rfl⟩) m', ⟨_, if_pos rfl, rfl, rfl⟩⟩
    · cases hq
  · cases hq
end
end Go.Sx
