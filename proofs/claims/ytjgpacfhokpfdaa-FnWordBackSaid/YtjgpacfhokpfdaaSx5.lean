/- Values out of cells and back, loads and stores. Any program. -/
import Derived.Test.YtjgpacfhokpfdaaSx4
import Derived.WalkKit
set_option linter.unusedVariables false
set_option linter.unusedSimpArgs false
namespace Go.Sx
open Go.RowKit

/-! ### typed values, some rows in them of one's own: 'bl': their blocks -/
section
variable (w : World) (Fz : Nat → Prop)
def KO : (t : Ty) → el t → List Value → List Nat → Prop
  | .ow e t, (xs : List (el t)), cs, bl => ∃ v vs, cs = [v] ∧ w.ownsRow 0 e (sz t) v xs.length vs ∧ Rows w Fz t xs vs ∧ bl = (blkV v).toList
  | .pair a b, x, cs, bl => ∃ c1 c2 b1 b2, cs = c1 ++ c2 ∧ bl = b1 ++ b2 ∧ KO a x.1 c1 b1 ∧ KO b x.2 c2 b2
  | .wrap t, x, cs, bl => KO t x cs bl
  | .int k, x, cs, bl => KI w Fz (.int k) x cs ∧ bl = []
  | .bool, x, cs, bl => KI w Fz .bool x cs ∧ bl = []
  | .str, x, cs, bl => KI w Fz .str x cs ∧ bl = []
  | .sl e t, x, cs, bl => KI w Fz (.sl e t) x cs ∧ bl = []
  | .unit, x, cs, bl => KI w Fz .unit x cs ∧ bl = []
  | .fnc f, x, cs, bl => KI w Fz (.fnc f) x cs ∧ bl = []
  | .any, x, cs, bl => KI w Fz .any x cs ∧ bl = []
  | .lk L t, x, cs, bl => KI w Fz (.lk L t) x cs ∧ bl = []
  | .fp t, x, cs, bl => KI w Fz (.fp t) x cs ∧ bl = []
  | .mq T t, x, cs, bl => KI w Fz (.mq T t) x cs ∧ bl = []
  | .om T t, (es : List (Int × el t)), cs, bl => ∃ g, cs = [.map (some g)] ∧ MqB w (fun x v => ∃ c, OneV (isAg t) v c ∧ KI w Fz t x c) es g ∧ bl = [g]
  | .dw e t, x, cs, bl => DO w (.sl e t) x cs bl ∧ bl.Nodup
  | .bx ty t, x, cs, bl => ∃ g cv bl', cs = [.pointer (some ⟨g, 0, none⟩)] ∧ w.heap[g]? = some (.cells cv ty (0, 0)) ∧ KO t x cv.toList bl' ∧ bl = g :: bl'
end
section
variable {w w' : World} {Fz Fz' : Nat → Prop}
theorem KO_len : ∀ {t : Ty} {x : el t} {cs : List Value} {bl : List Nat}, KO w Fz t x cs bl → cs.length = sz t
  | .ow _ _, _, _, _, h => by obtain ⟨v, vs, rfl, _⟩ := h; rfl
  | .pair a b, x, _, _, h => by
    obtain ⟨c1, c2, b1, b2, rfl, rfl, h1, h2⟩ := h
    rw [List.length_append, KO_len h1, KO_len h2]; rfl
  | .wrap t, x, cs, bl, h => KO_len (t := t) h
  | .int _, _, _, _, h => KI_len h.1
  | .bool, _, _, _, h => KI_len h.1
  | .str, _, _, _, h => KI_len h.1
  | .sl _ _, _, _, _, h => KI_len h.1
  | .unit, _, _, _, h => KI_len h.1
  | .fnc _, _, _, _, h => KI_len h.1
  | .any, _, _, _, h => KI_len h.1
  | .lk _ _, _, _, _, h => KI_len h.1
  | .fp _, _, _, _, h => KI_len h.1
  | .mq _ _, _, _, _, h => KI_len h.1
  | .om _ _, _, _, _, h => by obtain ⟨g, rfl, _⟩ := h; rfl
  | .dw _ _, _, _, _, h => by obtain ⟨v, rfl, _⟩ := DO_sl h.1; rfl
  | .bx _ _, _, _, _, h => by obtain ⟨g, cv, bl', rfl, _⟩ := h; rfl
theorem KO_KI : ∀ {t : Ty} {x : el t} {cs : List Value} {bl : List Nat}, rdo t = true → KO w Fz t x cs bl → KI w Fz t x cs
  | .ow _ _, _, _, _, hr, _ => by simp [rdo] at hr
  | .bx _ _, _, _, _, hr, _ => by simp [rdo] at hr
  | .pair a b, x, _, _, hr, h => by
    obtain ⟨c1, c2, b1, b2, rfl, rfl, h1, h2⟩ := h
    simp only [rdo, Bool.and_eq_true] at hr
    exact ⟨c1, c2, rfl, KO_KI hr.1 h1, KO_KI hr.2 h2⟩
  | .wrap t, x, cs, bl, hr, h => KO_KI (t := t) (by simpa [rdo] using hr) h
  | .int _, _, _, _, _, h => h.1
  | .bool, _, _, _, _, h => h.1
  | .str, _, _, _, _, h => h.1
  | .sl _ _, _, _, _, _, h => h.1
  | .unit, _, _, _, _, h => h.1
  | .fnc _, _, _, _, _, h => h.1
  | .any, _, _, _, hr, _ => by simp [rdo] at hr
  | .lk _ _, _, _, _, hr, _ => by simp [rdo] at hr
  | .fp _, _, _, _, hr, _ => by simp [rdo] at hr
  | .mq _ _, _, _, _, hr, _ => by simp [rdo] at hr
  | .om _ _, _, _, _, hr, _ => by simp [rdo] at hr
  | .dw _ _, _, _, _, hr, _ => by simp [rdo] at hr
theorem KO_KI' : ∀ {t : Ty} {x : el t} {cs : List Value} {bl : List Nat}, rdk t = true → KO w Fz t x cs bl → KI w Fz t x cs
  | .ow _ _, _, _, _, hr, _ => by simp [rdk] at hr
  | .bx _ _, _, _, _, hr, _ => by simp [rdk] at hr
  | .om _ _, _, _, _, hr, _ => by simp [rdk] at hr
  | .dw _ _, _, _, _, hr, _ => by simp [rdk] at hr
  | .pair a b, x, _, _, hr, h => by
    obtain ⟨c1, c2, b1, b2, rfl, rfl, h1, h2⟩ := h
    simp only [rdk, Bool.and_eq_true] at hr
    exact ⟨c1, c2, rfl, KO_KI' hr.1 h1, KO_KI' hr.2 h2⟩
  | .wrap t, x, cs, bl, hr, h => KO_KI' (t := t) (by simpa [rdk] using hr) h
  | .int _, _, _, _, _, h => h.1
  | .bool, _, _, _, _, h => h.1
  | .str, _, _, _, _, h => h.1
  | .sl _ _, _, _, _, _, h => h.1
  | .unit, _, _, _, _, h => h.1
  | .fnc _, _, _, _, _, h => h.1
  | .any, _, _, _, _, h => h.1
  | .lk _ _, _, _, _, _, h => h.1
  | .fp _, _, _, _, _, h => h.1
  | .mq _ _, _, _, _, _, h => h.1
theorem KI_KO : ∀ {t : Ty} {x : el t} {cs : List Value}, rdo t = true → KI w Fz t x cs → KO w Fz t x cs []
  | .ow _ _, _, _, hr, _ => by simp [rdo] at hr
  | .bx _ _, _, _, hr, _ => by simp [rdo] at hr
  | .pair a b, x, _, hr, h => by
    obtain ⟨c1, c2, rfl, h1, h2⟩ := h
    simp only [rdo, Bool.and_eq_true] at hr
    exact ⟨c1, c2, [], [], rfl, rfl, KI_KO hr.1 h1, KI_KO hr.2 h2⟩
  | .wrap t, x, cs, hr, h => KI_KO (t := t) (by simpa [rdo] using hr) h
  | .int _, _, _, _, h => ⟨h, rfl⟩
  | .bool, _, _, _, h => ⟨h, rfl⟩
  | .str, _, _, _, h => ⟨h, rfl⟩
  | .sl _ _, _, _, _, h => ⟨h, rfl⟩
  | .unit, _, _, _, h => ⟨h, rfl⟩
  | .fnc _, _, _, _, h => ⟨h, rfl⟩
  | .any, _, _, hr, _ => by simp [rdo] at hr
  | .lk _ _, _, _, hr, _ => by simp [rdo] at hr
  | .fp _, _, _, hr, _ => by simp [rdo] at hr
  | .mq _ _, _, _, hr, _ => by simp [rdo] at hr
  | .om _ _, _, _, hr, _ => by simp [rdo] at hr
  | .dw _ _, _, _, hr, _ => by simp [rdo] at hr
theorem KO_mono (hf : ∀ b, Fz b → Fz' b) (hw : ∀ b, Fz b → w'.heap[b]? = w.heap[b]?) : ∀ {t : Ty} {x : el t} {cs : List Value} {bl : List Nat}, (∀ b ∈ bl, w'.heap[b]? = w.heap[b]?) → KO w Fz t x cs bl → KO w' Fz' t x cs bl
  | .ow e t, xs, _, _, hb, h => by
    obtain ⟨v, vs, rfl, ho, hr, rfl⟩ := h
    refine ⟨v, vs, rfl, ⟨ho.1, ?_⟩, Rows_mono hf hw hr, rfl⟩
    rcases ho.2 with hn | ⟨g, cap, cur, rfl, hbg, hgg, rest⟩
    · exact .inl hn
    · exact .inr ⟨g, cap, cur, rfl, hbg, (hb g (by simp [blkV])).trans hgg, rest⟩
  | .pair a b, x, _, _, hb, h => by
    obtain ⟨c1, c2, b1, b2, rfl, rfl, h1, h2⟩ := h
    exact ⟨c1, c2, b1, b2, rfl, rfl, KO_mono hf hw (fun b h => hb b (by simp [h])) h1, KO_mono hf hw (fun b h => hb b (by simp [h])) h2⟩
  | .wrap t, x, cs, bl, hb, h => KO_mono (t := t) hf hw hb h
  | .int _, _, _, _, _, h => ⟨KI_mono hf hw h.1, h.2⟩
  | .bool, _, _, _, _, h => ⟨KI_mono hf hw h.1, h.2⟩
  | .str, _, _, _, _, h => ⟨KI_mono hf hw h.1, h.2⟩
  | .sl _ _, _, _, _, _, h => ⟨KI_mono hf hw h.1, h.2⟩
  | .unit, _, _, _, _, h => ⟨KI_mono hf hw h.1, h.2⟩
  | .fnc _, _, _, _, _, h => ⟨KI_mono hf hw h.1, h.2⟩
  | .any, _, _, _, _, h => ⟨KI_mono hf hw h.1, h.2⟩
  | .lk _ _, _, _, _, _, h => ⟨KI_mono hf hw h.1, h.2⟩
  | .fp _, _, _, _, _, h => ⟨KI_mono hf hw h.1, h.2⟩
  | .mq _ _, _, _, _, _, h => ⟨KI_mono hf hw h.1, h.2⟩
  | .dw _ _, _, _, _, hb, h => ⟨DO_mono hb h.1, h.2⟩
  | .om _ t, _, _, _, hb, h => by
    obtain ⟨g, rfl, ⟨arr, clk, hg, he, hn⟩, rfl⟩ := h
    exact ⟨g, rfl, ⟨arr, clk, (hb g (by simp)).trans hg, MqE_imp (fun e _ v ⟨c, ho, hk⟩ => ⟨c, ho, KI_mono (t := t) hf hw hk⟩) he, hn⟩, rfl⟩
  | .bx ty t, x, _, _, hb, h => by
    obtain ⟨g, cv, bl', rfl, hg, hk, rfl⟩ := h
    exact ⟨g, cv, bl', rfl, (hb g (by simp)).trans hg, KO_mono hf hw (fun b h => hb b (by simp [h])) hk, rfl⟩
/-- Where nothing is shared, what is read does not matter. -/
theorem KO_noimm : ∀ {t : Ty} {x : el t} {cs : List Value} {bl : List Nat}, imm t = false → KO w Fz t x cs bl → KO w Fz' t x cs bl
  | .ow e t, xs, _, _, hi, h => by
    obtain ⟨v, vs, rfl, ho, hr, rfl⟩ := h
    exact ⟨v, vs, rfl, ho, Rows_flat (by simpa [imm] using hi) hr, rfl⟩
  | .pair a b, x, _, _, hi, h => by
    obtain ⟨c1, c2, b1, b2, rfl, rfl, h1, h2⟩ := h
    simp only [imm, Bool.or_eq_false_iff] at hi
    exact ⟨c1, c2, b1, b2, rfl, rfl, KO_noimm hi.1 h1, KO_noimm hi.2 h2⟩
  | .wrap t, x, cs, bl, hi, h => KO_noimm (t := t) (by simpa [imm] using hi) h
  | .int _, _, _, _, _, h => h
  | .bool, _, _, _, _, h => h
  | .str, _, _, _, _, h => h
  | .sl _ _, _, _, _, hi, h => by simp [imm] at hi
  | .unit, _, _, _, _, h => h
  | .fnc _, _, _, _, _, h => h
  | .any, _, _, _, hi, h => by simp [imm] at hi
  | .lk _ _, _, _, _, hi, h => by simp [imm] at hi
  | .fp _, _, _, _, hi, h => by simp [imm] at hi
  | .mq _ _, _, _, _, hi, h => by simp [imm] at hi
  | .dw _ _, _, _, _, _, h => h
  | .om _ t, _, _, _, hi, h => by
    obtain ⟨g, rfl, ⟨arr, clk, hg, he, hn⟩, rfl⟩ := h
    exact ⟨g, rfl, ⟨arr, clk, hg, MqE_imp (fun e _ v ⟨c, ho, hk⟩ => ⟨c, ho, KI_flat (by simpa [imm] using hi) hk⟩) he, hn⟩, rfl⟩
  | .bx ty t, x, _, _, hi, h => by
    obtain ⟨g, cv, bl', rfl, hg, hk, rfl⟩ := h
    exact ⟨g, cv, bl', rfl, hg, KO_noimm (by simpa [imm] using hi) hk, rfl⟩
end

theorem as_some {s : SlV} {e : Nat} {t : Ty} {xs : List (el t)} (h : s.as e t = some xs) : s = ⟨e, t, xs⟩ := by
  obtain ⟨e', t', xs'⟩ := s
  unfold SlV.as at h
  split at h
  · rename_i ht
    simp only at ht
    subst ht
    cases hb : Nat.beq e' e with
    | false => rw [hb] at h; cases h
    | true =>
      rw [hb] at h
      simp only [cond_true, Option.some.injEq] at h
      have := Nat.eq_of_beq_eq_true hb
      subst this; subst h; rfl
  · cases h

section
variable {w0 w w' : World} {T Fz0 Fz Fz' U : Nat → Prop} {h : Hp} {ρ : Nat → Option Value}
/-- A row of one's own lies in that block. -/
def LiveO (h : Hp) (ρ : Nat → Option Value) (id b : Nat) : Prop := ∃ e t xs v, RowO (h id) e t xs ∧ ρ id = some v ∧ BlkOf v b
theorem LiveO.live {id b : Nat} (l : LiveO h ρ id b) : Live h ρ id b := by obtain ⟨e, t, xs, v, h1 | h1, h2, h3⟩ := l <;> exact ⟨_, v, h1, rfl, h2, h3⟩
/-- A slice that is read: nil, read before, or a row of the heap's. -/
theorem read_KI (R : RelM w0 T Fz0 U h ρ Fz w) (hf : ∀ b, Fz b → Fz' b) {e : Nat} {t : Ty} {c : AC} {v : Value} {xs : List (el t)} (hx : asRead h e t c = some xs) (hr : ACRep w ρ Fz c v)
    (hs : ∀ id, c = .o id → ∀ b, LiveO h ρ id b → Fz' b) : KI w Fz' (.sl e t) xs [v] := by
  cases c with
  | nilsl =>
    simp only [asRead, Option.some.injEq] at hx
    subst hx
    obtain rfl := hr
    exact ⟨none, 0, rfl, Nat.le_refl _, fun i hi => absurd hi (by simp)⟩
  | sl e' t' xs' =>
    simp only [asRead, slc] at hx
    have := as_some hx
    cases this
    exact KI_mono (Fz := Fz) hf (fun _ _ => rfl) (show KI w Fz (.sl e t) xs [v] from hr)
  | slk q e' t' xs' =>
    simp only [asRead, slc] at hx
    have := as_some hx
    cases this
    exact KI_mono (Fz := Fz) hf (fun _ _ => rfl) (hr : KI w Fz (.sl e t) xs [v] ∧ _).1
  | o id =>
    simp only [asRead, slc] at hx
    cases ho : h id with
    | none => rw [ho] at hx; cases hx
    | some ob =>
      rw [ho] at hx
      obtain ⟨u, hid, hrep, hgv⟩ := R.oRep ho hr
      cases ob with
      | box ty cs => cases hx
      | own e' t' xs' =>
        have := as_some hx; cases this
        obtain ⟨vs, hown, hrows⟩ := hrep
        rw [own_gval hown] at hgv
        subst hgv
        exact own_KI hown hrows hf fun b hb => hs id rfl b ⟨_, _, _, _, .inl ho, hid, blkOf hb⟩
      | fro e' t' xs' =>
        have := as_some hx; cases this
        exact KI_mono (Fz := Fz) hf (fun _ _ => rfl) (show KI w Fz (.sl e t) xs [v] from hgv ▸ hrep)
      | mp T n es => cases hx
      | mq T t es => cases hx
      | dp e t xs => cases hx
      | dh e t xs i off nm => cases hx
  | _ => simp [asRead, slc] at hx
/-- A row of one's own. -/
theorem own_KO (R : RelM w0 T Fz0 U h ρ Fz w) {e : Nat} {t : Ty} {c : AC} {v : Value} {xs : List (el t)} (hx : asOwn h e t c = some xs) (hr : ACRep w ρ Fz c v) :
    ∃ vs, w.ownsRow 0 e (sz t) v xs.length vs ∧ Rows w Fz t xs vs ∧ ((c = .nilsl ∧ blkV v = none ∧ v = .slice none 0 0 ∧ xs = []) ∨ ∃ id, c = .o id ∧ h id = some (.own e t xs) ∧ ρ id = some v) := by
  cases c with
  | nilsl =>
    simp only [asOwn, Option.some.injEq] at hx
    subst hx
    obtain rfl := hr
    exact ⟨[], World.ownsRow_nil .., Rows_nil, .inl ⟨rfl, rfl, rfl, rfl⟩⟩
  | o id =>
    simp only [asOwn] at hx
    cases ho : h id with
    | none => rw [ho] at hx; cases hx
    | some ob =>
      rw [ho] at hx
      cases ob with
      | own e' t' xs' =>
        have := as_some hx; cases this
        have hid := R.oOwn ho hr
        obtain ⟨v', hv', hrep⟩ := R.objs id _ ho
        rw [hid] at hv'; cases hv'
        obtain ⟨vs, hown, hrows⟩ := hrep
        exact ⟨vs, hown, hrows, .inr ⟨id, rfl, ho, hid⟩⟩
      | _ => cases hx
  | _ => simp [asOwn] at hx

theorem dec_int {k : IntKind} {acs : List AC} {x : Int} {r : List AC} (hd : decInt k acs = some (x, r)) : acs = .int k x :: r := by
  cases acs with
  | nil => simp [decInt] at hd
  | cons c acs =>
    cases c <;> simp [decInt] at hd
    obtain ⟨rfl, rfl, rfl⟩ := hd; rfl
theorem dec_bool {acs : List AC} {x : Bool} {r : List AC} (hd : decBool acs = some (x, r)) : acs = .bool x :: r := by
  cases acs with
  | nil => simp [decBool] at hd
  | cons c acs =>
    cases c <;> simp [decBool] at hd
    obtain ⟨rfl, rfl⟩ := hd; rfl
theorem dec_str {acs : List AC} {x : ByteArray} {r : List AC} (hd : decStr acs = some (x, r)) : acs = .str x :: r := by
  cases acs with
  | nil => simp [decStr] at hd
  | cons c acs =>
    cases c <;> simp [decStr] at hd
    obtain ⟨rfl, rfl⟩ := hd; rfl
theorem dec_sl {α : Type} {rd : AC → Option α} {acs : List AC} {x : α} {r : List AC} (hd : decSl rd acs = some (x, r)) : ∃ c, acs = c :: r ∧ rd c = some x := by
  cases acs with
  | nil => simp [decSl] at hd
  | cons c acs =>
    simp only [decSl] at hd
    cases ha : rd c with
    | none => rw [ha] at hd; cases hd
    | some xs => rw [ha] at hd; cases hd; exact ⟨c, rfl, ha⟩
theorem dec_pair {a b : Ty} {acs : List AC} {x : el a × el b} {r : List AC} (hd : dec h (.pair a b) acs = some (x, r)) : ∃ m, dec h a acs = some (x.1, m) ∧ dec h b m = some (x.2, r) := by
  simp only [dec] at hd
  cases ha : dec h a acs with
  | none => rw [ha] at hd; cases hd
  | some p =>
    obtain ⟨y, m⟩ := p
    rw [ha] at hd
    simp only at hd
    cases hb : dec h b m with
    | none => rw [hb] at hd; cases hd
    | some q =>
      obtain ⟨z, m'⟩ := q
      rw [hb] at hd; cases hd
      exact ⟨m, rfl, hb⟩
theorem dec_fnc {f : Nat} {acs : List AC} {x : Unit} {r : List AC} (hd : decFnc f acs = some (x, r)) : acs = fncC f :: r := by
  unfold decFnc at hd
  split at hd
  · rename_i g r'
    replace hd := cond_some hd; obtain ⟨hb, hd⟩ := hd
    cases hd
    rw [Bool.and_eq_true] at hb
    have h1 := Nat.eq_of_beq_eq_true hb.1
    subst h1
    unfold fncC
    rw [show Nat.beq f ixB = false by simpa using hb.2]
    rfl
  · rename_i g r'
    replace hd := cond_some hd; obtain ⟨hb, hd⟩ := hd
    cases hd
    rw [Bool.and_eq_true] at hb
    have h1 := Nat.eq_of_beq_eq_true hb.1
    subst h1
    unfold fncC
    rw [hb.2]
    rfl
  · cases hd
theorem dec_bx {α : Type} {ty : Nat} {rd : List AC → Option (α × List AC)} {acs : List AC} {x : α} {r : List AC} (hd : decBx h ty rd acs = some (x, r)) : ∃ id cs, acs = .p id 0 :: r ∧ h id = some (.box ty cs) ∧ rd cs = some (x, []) := by
  unfold decBx at hd
  split at hd
  · rename_i id r'
    split at hd
    · rename_i ty' cs hb
      cases hq : Nat.beq ty ty' with
      | false => rw [hq] at hd; cases hd
      | true =>
        rw [hq, cond_true] at hd
        have := Nat.eq_of_beq_eq_true hq
        subst this
        split at hd
        · rename_i y hy
          cases hd
          exact ⟨id, cs, rfl, hb, hy⟩
        · cases hd
    · cases hd
  · cases hd
theorem all2_cons {α β : Type} {Q : α → β → Prop} {a : α} {as : List α} {bs : List β} (h : All2 Q (a :: as) bs) : ∃ b bs', bs = b :: bs' ∧ Q a b ∧ All2 Q as bs' := by
  cases bs with
  | nil => exact h.elim
  | cons b bs => exact ⟨b, bs, rfl, h.1, h.2⟩
theorem mqas_some {s : MqV} {T : Nat} {t : Ty} {es : List (Int × el t)} (h : s.as T t = some es) : s = ⟨T, t, es⟩ := by
  obtain ⟨T', t', es'⟩ := s
  unfold MqV.as at h
  split at h
  · rename_i ht
    simp only at ht
    subst ht
    cases hb : Nat.beq T' T with
    | false => rw [hb] at h; cases h
    | true =>
      rw [hb] at h
      simp only [cond_true, Option.some.injEq] at h
      have := Nat.eq_of_beq_eq_true hb
      subst this; subst h; rfl
  · cases h
theorem pras_some {s : PrV} {t : Ty} {x : el t} (h : s.as t = some x) : s = ⟨t, x⟩ := by
  obtain ⟨t', x'⟩ := s
  unfold PrV.as at h
  split at h
  · rename_i ht
    simp only at ht
    subst ht
    simp only [Option.some.injEq] at h
    subst h; rfl
  · cases h
theorem cond_sm {α : Type} {b : Bool} {x : Option α} {y : α} (h : cond b x none = some y) : b = true ∧ x = some y := by
  cases b with
  | true => exact ⟨rfl, h⟩
  | false => cases h
theorem dec_fp {t : Ty} {rd : List AC → Option (el t × List AC)} {acs : List AC} {x : el t} {r : List AC} (hd : decFp h t rd acs = some (x, r)) :
    acs = .pr t x 0 :: r ∨ ∃ id ty cs, acs = .p id 0 :: r ∧ rdk t = true ∧ h id = some (.box ty cs) ∧ rd cs = some (x, []) := by
  cases acs with
  | nil => cases hd
  | cons c r' =>
    cases c with
    | pr t' y off =>
      obtain ⟨ho, hd2⟩ := cond_sm (show cond (Nat.beq off 0) (match (PrV.mk t' y).as t with
        | some y => some (y, r')
        | none => none) none = some (x, r) from hd)
      clear hd
      have := Nat.eq_of_beq_eq_true ho
      subst this
      cases hz : (PrV.mk t' y).as t with
      | none => rw [hz] at hd2; cases hd2
      | some z =>
        rw [hz] at hd2
        have := pras_some hz
        cases this
        cases hd2
        exact .inl rfl
    | p id off =>
      obtain ⟨ho, hd2⟩ := cond_sm (show cond (Nat.beq off 0 && rdk t) (match h id with
        | some (.box _ cs) => match rd cs with
          | some (x, []) => some (x, r')
          | _ => none
        | _ => none) none = some (x, r) from hd)
      clear hd
      simp only [Bool.and_eq_true] at ho
      have := Nat.eq_of_beq_eq_true ho.1
      subst this
      cases hb : h id with
      | none => rw [hb] at hd2; cases hd2
      | some ob =>
        rw [hb] at hd2
        cases ob with
        | box ty cs =>
          cases hy : rd cs with
          | none => simp only [hy] at hd2; cases hd2
          | some p =>
            obtain ⟨y, l⟩ := p
            simp only [hy] at hd2
            cases l with
            | nil => cases hd2; exact .inr ⟨id, ty, cs, rfl, ho.2, hb, hy⟩
            | cons _ _ => cases hd2
        | _ => cases hd2
    | _ => cases hd
/-- Nothing of one's own where all is read. -/
theorem owIds_rdk (h : Hp) : ∀ (t : Ty) (acs : List AC), rdk t = true → (owIds h t acs).1 = []
  | .pair a b, acs, hr => by
    simp only [rdk, Bool.and_eq_true] at hr
    simp only [owIds, owIds_rdk h a acs hr.1, owIds_rdk h b _ hr.2, List.append_nil]
  | .wrap t, acs, hr => owIds_rdk h t acs (by simpa [rdk] using hr)
  | .sl e t, acs, _ => by
    simp only [owIds]
    cases acs with
    | nil => rfl
    | cons c r => cases c <;> rfl
  | .fp t, acs, _ => by
    simp only [owIds]
    unfold owFp
    split
    · split <;> rfl
    · rfl
    · rfl
  | .ow _ _, _, hr => by simp [rdk] at hr
  | .bx _ _, _, hr => by simp [rdk] at hr
  | .om _ _, _, hr => by simp [rdk] at hr
  | .dw _ _, _, hr => by simp [rdk] at hr
  | .unit, _, _ | .int _, _, _ | .bool, _, _ | .str, _, _ | .fnc _, _, _ | .any, _, _ | .lk _ _, _, _ | .mq _ _, _, _ => rfl
/-- A value out of its cells. -/
theorem dec_KO (R : RelM w0 T Fz0 U h ρ Fz w) (hf : ∀ b, Fz b → Fz' b) : ∀ (t : Ty) (acs : List AC) (x : el t) (rest : List AC) (vs : List Value), dec h t acs = some (x, rest) → All2 (ACRep w ρ Fz) acs vs →
    (∀ id ∈ (owIds h t acs).2.1, ∀ b, LiveO h ρ id b → Fz' b) → (∀ id ∈ fzIds h t acs, ∀ b, Live h ρ id b → Fz' b) →
    ∃ c1 c2, vs = c1 ++ c2 ∧ All2 (ACRep w ρ Fz) rest c2 ∧ (owIds h t acs).2.2 = rest ∧ KO w Fz' t x c1 ((owIds h t acs).1.flatMap fun id => (ρ id).toList.flatMap blksV) ∧ ∀ id ∈ (owIds h t acs).1, ∃ ob, h id = some ob ∧ ob.wr = true
  | .int k, acs, x, rest, vs, hd, ha, hs, hz => by
    have := dec_int hd; subst this
    obtain ⟨v, vs, rfl, rfl, h2⟩ := all2_cons ha
    exact ⟨[_], vs, rfl, h2, rfl, ⟨rfl, rfl⟩, fun id hi => by cases hi⟩
  | .bool, acs, x, rest, vs, hd, ha, hs, hz => by
    have := dec_bool hd; subst this
    obtain ⟨v, vs, rfl, rfl, h2⟩ := all2_cons ha
    exact ⟨[_], vs, rfl, h2, rfl, ⟨rfl, rfl⟩, fun id hi => by cases hi⟩
  | .str, acs, x, rest, vs, hd, ha, hs, hz => by
    have := dec_str hd; subst this
    obtain ⟨v, vs, rfl, rfl, h2⟩ := all2_cons ha
    exact ⟨[_], vs, rfl, h2, rfl, ⟨rfl, rfl⟩, fun id hi => by cases hi⟩
  | .fnc f, acs, x, rest, vs, hd, ha, hs, hz => by
    have := dec_fnc hd; subst this
    obtain ⟨v, vs, rfl, hv, h2⟩ := all2_cons ha
    have hv' : v = fncV f := by
      unfold fncC at hv
      unfold fncV
      cases hb : Nat.beq f ixB with
      | true =>
        rw [hb] at hv
        obtain ⟨cv, rfl, hc⟩ := hv
        obtain rfl := Nat.eq_of_beq_eq_true hb
        obtain ⟨u, us, h3, h4, h5⟩ := all2_cons hc
        obtain rfl : u = .bool true := h4
        cases us with
        | cons => cases h5
        | nil =>
          obtain rfl : cv = #[.bool true] := Array.toList_inj.1 h3
          rfl
      | false =>
        rw [hb] at hv
        obtain ⟨cv, rfl, hc⟩ := hv
        have : cv = #[] := by
          have := hc.len
          exact Array.eq_empty_of_size_eq_zero (by simpa using this.symm)
        subst this
        exact fnV_nil f
    subst hv'
    exact ⟨[_], vs, rfl, h2, rfl, ⟨rfl, rfl⟩, fun id hi => by cases hi⟩
  | .any, acs, x, rest, vs, hd, ha, hs, hz => by cases hd
  | .lk _ _, acs, x, rest, vs, hd, ha, hs, hz => by cases hd
  | .fp t, acs, x, rest, vs, hd, ha, hs, hz => by
    rcases dec_fp hd with rfl | ⟨id, ty, cs, rfl, hrk, hb, hd⟩
    · obtain ⟨v, vs, rfl, ⟨g, o, row, hg, rfl, hc, hk⟩, h2⟩ := all2_cons ha
      exact ⟨[_], vs, rfl, h2, rfl, ⟨⟨g, o, row, rfl, hf g hg, hc, KI_mono (Fz := Fz) hf (fun _ _ => rfl) hk⟩, rfl⟩, fun id hi => by cases hi⟩
    · obtain ⟨v, vs, rfl, ⟨g, hid, rfl⟩, h2⟩ := all2_cons ha
      obtain ⟨pv, hpv, g', cv, rfl, hg, hc⟩ := R.objs id _ hb
      rw [hid] at hpv; cases hpv
      have how : owIds h (.fp t) (.p id 0 :: rest) = ([], (owIds h t cs).2.1, rest) := by
        show owFp h (owIds h t) (.p id 0 :: rest) = _
        unfold owFp
        dsimp only
        rw [hb]
      have hfz : fzIds h (.fp t) (.p id 0 :: rest) = id :: fzIds h t cs := by
        show fzFp h (fzIds h t) (.p id 0 :: rest) = _
        unfold fzFp
        dsimp only
        rw [hb]
      rw [hfz] at hz
      obtain ⟨c1, c2, e12, ha2, _, hk, hn⟩ := dec_KO R hf t cs x [] cv.toList hd hc (fun id' hi b hl => hs id' (by rw [how]; exact hi) b hl) (fun id' hi b hl => hz id' (List.mem_cons_of_mem _ hi) b hl)
      have : c2 = [] := List.eq_nil_of_length_eq_zero (by simpa using ha2.len.symm)
      subst this
      rw [List.append_nil] at e12
      subst e12
      rw [how]
      have hfg : Fz' g := hz id List.mem_cons_self g ⟨_, _, hb, rfl, hid, rfl⟩
      refine ⟨[_], vs, rfl, h2, rfl, ⟨⟨g, 0, cv.toList, rfl, hfg, fun j u hj => ?_, KO_KI' hrk hk⟩, rfl⟩, fun id' hi => by cases hi⟩
      rw [Nat.zero_add]
      have : cv[j]? = some u := by simpa using hj
      simp [World.cell?, hg, this]
  | .mq T t, acs, x, rest, vs, hd, ha, hs, hz => by
    obtain ⟨c, rfl, hr⟩ := dec_sl hd
    obtain ⟨v, vs, rfl, h1, h2⟩ := all2_cons ha
    unfold asMq at hr
    cases c with
    | mr T' t' es' =>
      have := mqas_some hr
      cases this
      exact ⟨[_], vs, rfl, h2, rfl, ⟨KI_mono (Fz := Fz) hf (fun _ _ => rfl) (show KI w Fz (.mq T t) x [v] from h1), rfl⟩, fun id hi => by cases hi⟩
    | o id =>
      simp only [mqc] at hr
      cases hb : h id with
      | none => rw [hb] at hr; cases hr
      | some ob =>
        rw [hb] at hr
        cases ob with
        | mq T' t' es' =>
          have := mqas_some hr
          cases this
          obtain ⟨u, hid, ⟨g, rfl, hB⟩, hgv⟩ := R.oRep hb h1
          cases hgv
          have hfg : Fz' g := hz id (by simp [fzIds, fzMq]) g ⟨_, _, hb, rfl, hid, rfl⟩
          obtain ⟨arr, clk, hg, he, hn⟩ := hB
          refine ⟨[_], vs, rfl, h2, rfl, ⟨⟨some g, rfl, fun g' hg' => ?_, fun h => by cases h⟩, rfl⟩, fun id hi => by cases hi⟩
          cases hg'
          exact ⟨hfg, arr, clk, hg, MqE_imp (fun e _ v ⟨c, ho, hk⟩ => ⟨c, ho, KI_mono (t := t) hf (fun _ _ => rfl) hk⟩) he, hn⟩
        | _ => cases hr
    | _ => simp [mqc] at hr
  | .om T t, acs, x, rest, vs, hd, ha, hs, hz => by
    obtain ⟨c, rfl, hr⟩ := dec_sl hd
    obtain ⟨v, vs, rfl, h1, h2⟩ := all2_cons ha
    cases c with
    | o id =>
      simp only [asOm] at hr
      cases hb : h id with
      | none => rw [hb] at hr; cases hr
      | some ob =>
        rw [hb] at hr
        cases ob with
        | mq T' t' es' =>
          have := mqas_some hr
          cases this
          obtain ⟨u, hid, ⟨g, rfl, arr, clk, hg, he, hn⟩, hgv⟩ := R.oRep hb h1
          cases hgv
          refine ⟨[_], vs, rfl, h2, rfl, ⟨g, rfl, ⟨arr, clk, hg, MqE_imp (fun e _ v ⟨c, ho, hk⟩ => ⟨c, ho, KI_mono (t := t) hf (fun _ _ => rfl) hk⟩) he, hn⟩, by simp [owIds, owO, hid]; rfl⟩, fun id' hi => ?_⟩
          simp only [owIds, owO, List.mem_singleton] at hi; subst hi; exact ⟨_, hb, rfl⟩
        | _ => cases hr
    | _ => simp [asOm] at hr
  | .dw e t, acs, x, rest, vs, hd, ha, hs, hz => by
    obtain ⟨c, rfl, hr⟩ := dec_sl hd
    obtain ⟨v, vs, rfl, h1, h2⟩ := all2_cons ha
    cases c with
    | nilsl =>
      have hr : x = ([] : List (el t)) := (Option.some.inj hr).symm
      subst hr
      obtain rfl := (h1 : v = .slice none 0 0)
      exact ⟨[_], vs, rfl, h2, rfl, ⟨DO_nil, by simp [owIds, owO]⟩, fun id hi => by cases hi⟩
    | o id =>
      simp only [asDp] at hr
      cases hb : h id with
      | none => rw [hb] at hr; cases hr
      | some ob =>
        rw [hb] at hr
        cases ob with
        | dp e' t' xs' =>
          have := as_some hr
          cases this
          obtain ⟨u, hid, ⟨u', bl, rfl, hd, hn⟩, hgv⟩ := R.oRep hb h1
          cases hgv
          have hbl : ((owIds h (.dw e t) (.o id :: rest)).1.flatMap fun id => (ρ id).toList.flatMap blksV) = bl := by simp [owIds, owO, hid, ghost_blks]
          rw [hbl]
          refine ⟨[_], vs, rfl, h2, rfl, ⟨hd, hn⟩, fun id' hi => ?_⟩
          simp only [owIds, owO, List.mem_singleton] at hi; subst hi; exact ⟨_, hb, rfl⟩
        | _ => cases hr
    | _ => simp [asDp] at hr
  | .unit, acs, x, rest, vs, hd, ha, hs, hz => by
    simp only [dec, Option.some.injEq] at hd
    cases hd
    exact ⟨[], vs, rfl, ha, rfl, ⟨rfl, rfl⟩, fun id hi => by cases hi⟩
  | .wrap t, acs, x, rest, vs, hd, ha, hs, hz => dec_KO R hf t acs x rest vs hd ha hs hz
  | .sl e t, acs, x, rest, vs, hd, ha, hs, hz => by
    obtain ⟨c, rfl, hr⟩ := dec_sl hd
    obtain ⟨v, vs, rfl, h1, h2⟩ := all2_cons ha
    have hk := read_KI R hf hr h1 (fun id hc b hl => hs id (by subst hc; simp [owIds, owS]) b hl)
    have hw : (owIds h (.sl e t) (c :: rest)).1 = [] ∧ (owIds h (.sl e t) (c :: rest)).2.2 = rest := by cases c <;> simp [owIds, owS]
    rw [hw.1, hw.2]
    exact ⟨[v], vs, rfl, h2, rfl, ⟨hk, rfl⟩, fun id hi => by cases hi⟩
  | .ow e t, acs, x, rest, vs, hd, ha, hs, hz => by
    obtain ⟨c, rfl, hr⟩ := dec_sl hd
    obtain ⟨v, vs, rfl, h1, h2⟩ := all2_cons ha
    obtain ⟨us, hown, hrows, hcase⟩ := own_KO R hr h1
    rcases hcase with ⟨rfl, hb, rfl, rfl⟩ | ⟨id, rfl, ho, hid⟩
    · exact ⟨[_], vs, rfl, h2, rfl, ⟨_, us, rfl, hown, Rows_mono hf (fun _ _ => rfl) hrows, rfl⟩, fun id hi => by cases hi⟩
    · refine ⟨[_], vs, rfl, h2, rfl, ⟨_, us, rfl, hown, Rows_mono hf (fun _ _ => rfl) hrows, ?_⟩, fun id' hi => ?_⟩
      · simp [owIds, owO, hid, own_blks hown]
      · simp only [owIds, owO, List.mem_singleton] at hi; subst hi; exact ⟨_, ho, rfl⟩
  | .pair a b, acs, x, rest, vs, hd, ha, hs, hz => by
    obtain ⟨m, h1, h2⟩ := dec_pair hd
    have hsa : ∀ id ∈ (owIds h a acs).2.1, ∀ b, LiveO h ρ id b → Fz' b := fun id hi => hs id (by simp only [owIds]; exact List.mem_append_left _ hi)
    obtain ⟨c1, c2, rfl, ha1, ho1, hk1, hn1⟩ := dec_KO R hf a acs x.1 m vs h1 ha hsa (fun id hi => hz id (by simp only [fzIds]; exact List.mem_append_left _ hi))
    have hsb : ∀ id ∈ (owIds h b m).2.1, ∀ b, LiveO h ρ id b → Fz' b := fun id hi => hs id (by simp only [owIds, ho1]; exact List.mem_append_right _ hi)
    obtain ⟨c3, c4, rfl, ha2, ho2, hk2, hn2⟩ := dec_KO R hf b m x.2 rest c2 h2 ha1 hsb (fun id hi => hz id (by simp only [fzIds, ho1]; exact List.mem_append_right _ hi))
    refine ⟨c1 ++ c3, c4, by rw [List.append_assoc], ha2, by simp only [owIds, ho1, ho2], ⟨c1, c3, _, _, rfl, ?_, hk1, hk2⟩, fun id hi => ?_⟩
    · simp only [owIds, ho1, List.flatMap_append]
    · simp only [owIds, ho1] at hi
      rcases List.mem_append.1 hi with hi | hi
      · exact hn1 id hi
      · exact hn2 id hi
  | .bx ty t, acs, x, rest, vs, hd, ha, hs, hz => by
    obtain ⟨id, cs, rfl, hb, hd⟩ := dec_bx hd
    obtain ⟨v, vs, rfl, ⟨g, hid, rfl⟩, h2⟩ := all2_cons ha
    obtain ⟨pv, hpv, g', cv, rfl, hg, hc⟩ := R.objs id _ hb
    rw [hid] at hpv; cases hpv
    have how : owIds h (.bx ty t) (.p id 0 :: rest) = (id :: (owIds h t cs).1, (owIds h t cs).2.1, rest) := by
      show owBx h (owIds h t) (.p id 0 :: rest) = _
      unfold owBx
      dsimp only
      rw [hb]
    obtain ⟨c1, c2, e12, ha2, _, hk, hn⟩ := dec_KO R hf t cs x [] cv.toList hd hc (fun id' hi b hl => hs id' (by rw [how]; exact hi) b hl) (fun id' hi b hl => hz id' (by simp only [fzIds, fzBx, hb]; exact hi) b hl)
    have : c2 = [] := List.eq_nil_of_length_eq_zero (by simpa using ha2.len.symm)
    subst this
    rw [List.append_nil] at e12
    subst e12
    rw [how]
    refine ⟨[_], vs, rfl, h2, rfl, ⟨g, cv, _, rfl, hg, hk, ?_⟩, fun id' hi => ?_⟩
    · simp [hid, blksV, blkV]
    · rcases List.mem_cons.1 hi with rfl | hi
      · exact ⟨_, hb, rfl⟩
      · exact hn id' hi
theorem decAll_KO (R : RelM w0 T Fz0 U h ρ Fz w) (hf : ∀ b, Fz b → Fz' b) {t : Ty} {acs : List AC} {x : el t} {vs : List Value} (hd : decAll h t acs = some x) (ha : All2 (ACRep w ρ Fz) acs vs)
    (hs : ∀ id ∈ (owIds h t acs).2.1, ∀ b, LiveO h ρ id b → Fz' b) (hz : ∀ id ∈ fzIds h t acs, ∀ b, Live h ρ id b → Fz' b) :
    KO w Fz' t x vs ((owIds h t acs).1.flatMap fun id => (ρ id).toList.flatMap blksV) ∧ ∀ id ∈ (owIds h t acs).1, ∃ ob, h id = some ob ∧ ob.wr = true := by
  unfold decAll at hd
  cases hc : dec h t acs with
  | none => rw [hc] at hd; cases hd
  | some p =>
    obtain ⟨y, r⟩ := p
    rw [hc] at hd
    cases r with
    | cons => cases hd
    | nil =>
      simp only [Option.some.injEq] at hd
      subst hd
      obtain ⟨c1, c2, rfl, h2, _, hk, hn⟩ := dec_KO R hf t acs y [] vs hc ha hs hz
      have : c2 = [] := by have := h2.len; exact List.eq_nil_of_length_eq_zero (by simpa using this.symm)
      subst this
      rw [List.append_nil]
      exact ⟨hk, hn⟩
theorem oIds_cons (c : AC) (r : List AC) : ∀ id ∈ oIds r, id ∈ oIds (c :: r) := by
  intro id hi
  cases c <;> simp [oIds, hi]
theorem noO_oIds : ∀ {cs : List AC}, noO cs = true → oIds cs = []
  | [], _ => rfl
  | c :: r, h => by
    cases c <;> simp only [noO] at h <;> (try (cases h; done)) <;> exact noO_oIds (cs := r) h
theorem owIds_sub (h : Hp) : ∀ (t : Ty) (acs : List AC), rdo t = true → (∀ id ∈ (owIds h t acs).2.1, id ∈ oIds acs) ∧ (∀ id ∈ oIds (owIds h t acs).2.2, id ∈ oIds acs)
  | .pair a b, acs, hr => by
    simp only [rdo, Bool.and_eq_true] at hr
    have h1 := owIds_sub h a acs hr.1
    have h2 := owIds_sub h b (owIds h a acs).2.2 hr.2
    simp only [owIds]
    refine ⟨fun id hi => ?_, fun id hi => h1.2 id (h2.2 id hi)⟩
    rcases List.mem_append.1 hi with hi | hi
    · exact h1.1 id hi
    · exact h1.2 id (h2.1 id hi)
  | .wrap t, acs, hr => owIds_sub h t acs (by simpa [rdo] using hr)
  | .unit, acs, _ => ⟨(by intro _ hi; cases hi), fun _ hi => hi⟩
  | .sl e t, [], _ => ⟨(by intro _ hi; cases hi), fun _ hi => hi⟩
  | .sl e t, c :: r, _ => by
    cases c <;> refine ⟨fun id hi => ?_, fun id hi => oIds_cons _ r id hi⟩ <;> simp [owIds, owS, owO] at hi <;> subst hi <;> simp [oIds]
  | .ow e t, _, hr => by simp [rdo] at hr
  | .fnc _, _, hr => by simp [rdo] at hr
  | .any, _, hr => by simp [rdo] at hr
  | .lk _ _, _, hr => by simp [rdo] at hr
  | .fp _, _, hr => by simp [rdo] at hr
  | .mq _ _, _, hr => by simp [rdo] at hr
  | .om _ _, _, hr => by simp [rdo] at hr
  | .dw _ _, _, hr => by simp [rdo] at hr
  | .bx _ _, _, hr => by simp [rdo] at hr
  | .int _, [], _ | .bool, [], _ | .str, [], _ => ⟨(by intro _ hi; cases hi), fun _ hi => hi⟩
  | .int _, c :: r, _ | .bool, c :: r, _ | .str, c :: r, _ => ⟨(by intro _ hi; cases hi), fun id hi => oIds_cons _ r id hi⟩
theorem fzIds_rdo (h : Hp) : ∀ (t : Ty) (acs : List AC), rdo t = true → fzIds h t acs = []
  | .pair a b, acs, hr => by
    simp only [rdo, Bool.and_eq_true] at hr
    simp only [fzIds, fzIds_rdo h a acs hr.1, fzIds_rdo h b _ hr.2, List.append_nil]
  | .wrap t, acs, hr => fzIds_rdo h t acs (by simpa [rdo] using hr)
  | .sl _ _, _, _ | .unit, _, _ | .int _, _, _ | .bool, _, _ | .str, _, _ => rfl
  | .ow _ _, _, hr => by simp [rdo] at hr
  | .fnc _, _, hr => by simp [rdo] at hr
  | .any, _, hr => by simp [rdo] at hr
  | .lk _ _, _, hr => by simp [rdo] at hr
  | .fp _, _, hr => by simp [rdo] at hr
  | .mq _ _, _, hr => by simp [rdo] at hr
  | .om _ _, _, hr => by simp [rdo] at hr
  | .dw _ _, _, hr => by simp [rdo] at hr
  | .bx _ _, _, hr => by simp [rdo] at hr
/-- Elements that are read, out of their cells. -/
theorem decN_Rows (R : RelM w0 T Fz0 U h ρ Fz w) (hf : ∀ b, Fz b → Fz' b) {t : Ty} (hr : rdo t = true) : ∀ (n : Nat) (acs : List AC) (xs : List (el t)) (vs : List Value), decN h t n acs = some xs → All2 (ACRep w ρ Fz) acs vs →
    (∀ id ∈ oIds acs, ∀ b, LiveO h ρ id b → Fz' b) → xs.length = n ∧ Rows w Fz' t xs vs
  | 0, acs, xs, vs, hd, ha, hs => by
    cases acs with
    | cons => simp [decN] at hd
    | nil =>
      simp only [decN, Option.some.injEq] at hd
      subst hd
      have : vs = [] := by have := ha.len; exact List.eq_nil_of_length_eq_zero (by simpa using this.symm)
      subst this
      exact ⟨rfl, Rows_nil⟩
  | n + 1, acs, xs, vs, hd, ha, hs => by
    simp only [decN] at hd
    cases hc : dec h t acs with
    | none => rw [hc] at hd; cases hd
    | some p =>
      obtain ⟨x, r⟩ := p
      rw [hc] at hd
      simp only at hd
      cases hn : decN h t n r with
      | none => rw [hn] at hd; cases hd
      | some ys =>
        rw [hn] at hd; cases hd
        have hsub := owIds_sub h t acs hr
        obtain ⟨c1, c2, rfl, h2, ho, hk, _⟩ := dec_KO R hf t acs x r vs hc ha (fun id hi => hs id (hsub.1 id hi)) (fun id hi => by rw [fzIds_rdo h t acs hr] at hi; cases hi)
        obtain ⟨hl, hrows⟩ := decN_Rows R hf hr n r ys c2 hn h2 (fun id hi => hs id (hsub.2 id (by rw [ho]; exact hi)))
        exact ⟨by rw [List.length_cons, hl], Rows_app (Rows_one (KO_KI hr hk)) hrows⟩
end

/-! ### the heap's turns -/
def updF (h : Hp) : Upd → Hp
  | [] => h
  | (i, o) :: r => updF (fun j => if j = i then o else h j) r
theorem updF_app (h : Hp) (u u' : Upd) : updF h (u ++ u') = updF (updF h u) u' := by
  induction u generalizing h with
  | nil => rfl
  | cons p r ih => exact ih _
theorem updF_not (u : Upd) : ∀ (h : Hp) (id : Nat), id ∉ u.map (·.1) → updF h u id = h id := by
  induction u with
  | nil => intro h id _; rfl
  | cons p r ih =>
    intro h id hn
    simp only [List.map_cons, List.mem_cons, not_or] at hn
    show updF _ r id = _
    rw [ih _ id hn.2, if_neg hn.1]
/-- Turns that all say the same of a name. -/
theorem updF_all (u : Upd) : ∀ (h : Hp) (id : Nat) (o : Option Obj), (∀ p ∈ u, p.1 = id → p.2 = o) → (id ∈ u.map (·.1) ∨ h id = o) → updF h u id = o := by
  induction u with
  | nil => intro h id o _ hm; rcases hm with hm | hm; cases hm; exact hm
  | cons p r ih =>
    intro h id o ha hm
    show updF _ r id = _
    refine ih _ id o (fun q hq => ha q (List.mem_cons_of_mem _ hq)) ?_
    by_cases hr : id ∈ r.map (·.1)
    · exact .inl hr
    · refine .inr ?_
      by_cases hp : id = p.1
      · rw [if_pos hp]; exact ha p (List.mem_cons_self) hp.symm
      · rw [if_neg hp]
        rcases hm with hm | hm
        · simp only [List.map_cons, List.mem_cons] at hm
          rcases hm with hm | hm
          · exact absurd hm hp
          · exact absurd hm hr
        · exact hm
theorem frz_mem (h : Hp) : ∀ (cs : List AC) (p : Nat × Option Obj), p ∈ frz h cs → p.1 ∈ oIds cs ∧ ∃ e t xs, RowO (h p.1) e t xs ∧ p.2 = some (.fro e t xs)
  | [], p, hp => by cases hp
  | c :: r, p, hp => by
    have ih0 := frz_mem h r p
    cases c with
    | o id =>
      simp only [frz] at hp
      cases ho : h id with
      | none => rw [ho] at hp; exact ⟨List.mem_cons_of_mem _ (ih0 hp).1, (ih0 hp).2⟩
      | some ob =>
        rw [ho] at hp
        cases ob with
        | own e t xs =>
          simp only [List.mem_cons] at hp
          rcases hp with rfl | hp
          · exact ⟨List.mem_cons_self, e, t, xs, .inl ho, rfl⟩
          · exact ⟨List.mem_cons_of_mem _ (ih0 hp).1, (ih0 hp).2⟩
        | dp e t xs =>
          simp only [List.mem_cons] at hp
          rcases hp with rfl | hp
          · exact ⟨List.mem_cons_self, e, t, xs, .inr ho, rfl⟩
          · exact ⟨List.mem_cons_of_mem _ (ih0 hp).1, (ih0 hp).2⟩
        | box ty cs => exact ⟨List.mem_cons_of_mem _ (ih0 hp).1, (ih0 hp).2⟩
        | dh e t xs i off nm => exact ⟨List.mem_cons_of_mem _ (ih0 hp).1, (ih0 hp).2⟩
        | mq T t es => exact ⟨List.mem_cons_of_mem _ (ih0 hp).1, (ih0 hp).2⟩
        | fro e t xs => exact ⟨List.mem_cons_of_mem _ (ih0 hp).1, (ih0 hp).2⟩
        | mp T n es => exact ⟨List.mem_cons_of_mem _ (ih0 hp).1, (ih0 hp).2⟩
    | _ => simp only [frz] at hp; simp only [oIds]; exact ih0 hp
theorem frz_has (h : Hp) : ∀ (cs : List AC) (id : Nat) (e : Nat) (t : Ty) (xs : List (el t)), id ∈ oIds cs → RowO (h id) e t xs → id ∈ (frz h cs).map (·.1)
  | [], _, _, _, _, hi, _ => by cases hi
  | c :: r, id, e, t, xs, hi, ho => by
    have ih0 := frz_has h r id e t xs
    cases c with
    | o id' =>
      simp only [oIds, List.mem_cons] at hi
      simp only [frz]
      rcases hi with rfl | hi
      · rcases ho with ho | ho <;> rw [ho] <;> simp
      · cases ho' : h id' with
        | none => exact ih0 hi ho
        | some ob => cases ob <;> simp only [List.map_cons, List.mem_cons] <;> first | exact .inr (ih0 hi ho) | exact ih0 hi ho
    | _ => simp only [frz]; exact ih0 hi ho
end Go.Sx
