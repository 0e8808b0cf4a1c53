/- How the plain machine's values stand to Go's: what a slice reads, what is one's own, and that both outlast what is done elsewhere. Any program. -/
import Derived.Test.YtjgpacfhokpfdaaSx2
import Derived.Laws.OwnMore
import Derived.Laws.CopyRow
import Derived.Below
set_option linter.unusedVariables false
namespace Go.Sx

def All2 {α β : Type} (R : α → β → Prop) : List α → List β → Prop
  | [], [] => True
  | a :: as, b :: bs => R a b ∧ All2 R as bs
  | _, _ => False
theorem cond_some {α : Type} {b : Bool} {x : Option α} {y : α} (h : cond b x none = some y) : b = true ∧ x = some y := by
  cases b with
  | true => exact ⟨rfl, h⟩
  | false => cases h
namespace All2
variable {α β : Type} {R R' : α → β → Prop}
theorem nil : All2 R [] [] := trivial
theorem cons {a : α} {b : β} {as : List α} {bs : List β} (h : R a b) (t : All2 R as bs) : All2 R (a :: as) (b :: bs) := ⟨h, t⟩
theorem len : ∀ {as : List α} {bs : List β}, All2 R as bs → as.length = bs.length
  | [], [], _ => rfl
  | _ :: as, _ :: bs, h => by rw [List.length_cons, List.length_cons, len h.2]
  | [], _ :: _, h => h.elim
  | _ :: _, [], h => h.elim
theorem imp (hi : ∀ a b, R a b → R' a b) : ∀ {as : List α} {bs : List β}, All2 R as bs → All2 R' as bs
  | [], [], _ => trivial
  | _ :: _, _ :: _, h => ⟨hi _ _ h.1, imp hi h.2⟩
  | [], _ :: _, h => h.elim
  | _ :: _, [], h => h.elim
theorem app : ∀ {as as' : List α} {bs bs' : List β}, All2 R as bs → All2 R as' bs' → All2 R (as ++ as') (bs ++ bs')
  | [], _, [], _, _, h => h
  | _ :: _, _, _ :: _, _, h, h' => ⟨h.1, app h.2 h'⟩
  | [], _, _ :: _, _, h, _ => h.elim
  | _ :: _, _, [], _, h, _ => h.elim
theorem split : ∀ {as as' : List α} {bs : List β}, All2 R (as ++ as') bs → ∃ b1 b2, bs = b1 ++ b2 ∧ All2 R as b1 ∧ All2 R as' b2
  | [], _, bs, h => ⟨[], bs, rfl, trivial, h⟩
  | _ :: as, _, b :: bs, h => by
    obtain ⟨b1, b2, e, h1, h2⟩ := split (as := as) h.2
    exact ⟨b :: b1, b2, by rw [e]; rfl, ⟨h.1, h1⟩, h2⟩
  | _ :: _, _, [], h => h.elim
theorem get : ∀ {as : List α} {bs : List β}, All2 R as bs → ∀ {i : Nat} {a : α}, as[i]? = some a → ∃ b, bs[i]? = some b ∧ R a b
  | [], [], _, i, a, h => by simp at h
  | x :: as, y :: bs, h, 0, a, hi => by
    simp at hi; subst hi
    exact ⟨y, rfl, h.1⟩
  | x :: as, y :: bs, h, i + 1, a, hi => by
    simp at hi
    obtain ⟨b, hb, hr⟩ := get h.2 hi
    exact ⟨b, by simpa using hb, hr⟩
  | [], _ :: _, h, _, _, _ => h.elim
  | _ :: _, [], h, _, _, _ => h.elim
theorem drop : ∀ {as : List α} {bs : List β}, All2 R as bs → ∀ n, All2 R (as.drop n) (bs.drop n)
  | as, bs, h, 0 => by simpa using h
  | [], [], _, n + 1 => by simp [All2]
  | _ :: as, _ :: bs, h, n + 1 => by simpa using drop h.2 n
  | [], _ :: _, h, _ + 1 => h.elim
  | _ :: _, [], h, _ + 1 => h.elim
theorem take : ∀ {as : List α} {bs : List β}, All2 R as bs → ∀ n, All2 R (as.take n) (bs.take n)
  | as, bs, h, 0 => by simp [All2]
  | [], [], _, n + 1 => by simp [All2]
  | _ :: as, _ :: bs, h, n + 1 => by simpa [All2] using ⟨h.1, take h.2 n⟩
  | [], _ :: _, h, _ + 1 => h.elim
  | _ :: _, [], h, _ + 1 => h.elim
theorem set : ∀ {as : List α} {bs : List β}, All2 R as bs → ∀ n {a b}, R a b → All2 R (as.set n a) (bs.set n b)
  | [], [], _, n, _, _, _ => by simp [All2]
  | _ :: as, _ :: bs, h, 0, _, _, hr => ⟨hr, h.2⟩
  | _ :: as, _ :: bs, h, n + 1, _, _, hr => ⟨h.1, set h.2 n hr⟩
  | [], _ :: _, h, _, _, _, _ => h.elim
  | _ :: _, [], h, _, _, _, _ => h.elim
theorem map {γ : Type} {S : γ → β → Prop} (f : α → γ) (hi : ∀ a b, R a b → S (f a) b) : ∀ {as : List α} {bs : List β}, All2 R as bs → All2 S (as.map f) bs
  | [], [], _ => trivial
  | _ :: _, _ :: _, h => ⟨hi _ _ h.1, map f hi h.2⟩
  | [], _ :: _, h => h.elim
  | _ :: _, [], h => h.elim
theorem mapl {γ : Type} {S : α → γ → Prop} (f : β → γ) (hi : ∀ a b, R a b → S a (f b)) : ∀ {as : List α} {bs : List β}, All2 R as bs → All2 S as (bs.map f)
  | [], [], _ => trivial
  | _ :: _, _ :: _, h => ⟨hi _ _ h.1, mapl f hi h.2⟩
  | [], _ :: _, h => h.elim
  | _ :: _, [], h => h.elim
theorem mk (n : Nat) (a : α) (b : β) (h : R a b) : All2 R (List.replicate n a) (List.replicate n b) := by
  induction n with
  | zero => exact trivial
  | succ n ih => exact ⟨h, ih⟩
end All2

/-! ### what is read -/
section
variable (w : World) (Fz : Nat → Prop)
/-- Links that stay. -/
def LkR {α : Type} (n : Nat) (K : α → List Value → Prop) : List α → Option Addr → Prop
  | [], p => p = none
  | x :: r, p => ∃ g o row q, p = some ⟨g, o, none⟩ ∧ Fz g ∧ row.length = n ∧ (∀ j u, (row ++ [Value.pointer q])[j]? = some u → w.cell? ⟨g, o + j, none⟩ = some u) ∧ K x row ∧ LkR n K r q
/-- A value as its cells. -/
def OneV (ag : Bool) (v : Value) (cs : List Value) : Prop := (ag = true ∧ v = .agg cs.toArray) ∨ (ag = false ∧ cs = [v])
/-- The entries of a map from numbers. -/
def MqE {α : Type} (K : α → Value → Prop) : List (Int × α) → List MapEntry → Prop
  | [], [] => True
  | e :: es, m :: ms => m.key = .int .i64 e.1 ∧ (Lit.int .i64 e.1).wf = true ∧ K e.2 m.val ∧ MqE K es ms
  | _, _ => False
def MqB {α : Type} (K : α → Value → Prop) (es : List (Int × α)) (g : Nat) : Prop := ∃ arr clk, w.heap[g]? = some (.map arr clk) ∧ MqE K es arr.toList ∧ (es.map (·.1)).Nodup
def fncV (f : Nat) : Value := cond (Nat.beq f ixB) .nilIface (.func (.func f) #[] #[])
theorem fncV_one (f : Nat) : (fncV f).oneCell' = true := by unfold fncV; cases Nat.beq f ixB <;> rfl
def KI : (t : Ty) → el t → List Value → Prop
  | .int k, n, cs => cs = [.int k n]
  | .bool, b, cs => cs = [.bool b]
  | .str, s, cs => cs = [.string s]
  | .sl _ t, (xs : List (el t)), cs => ∃ A c, cs = [.slice A xs.length c] ∧ xs.length ≤ c ∧
      ∀ i (hi : i < xs.length), ∃ g o row, A = some ⟨g, o, none⟩ ∧ Fz g ∧ (∀ j u, row[j]? = some u → w.cell? ⟨g, o + i * sz t + j, none⟩ = some u) ∧ KI t xs[i] row
  | .ow _ _, _, _ => False
  | .pair a b, x, cs => ∃ c1 c2, cs = c1 ++ c2 ∧ KI a x.1 c1 ∧ KI b x.2 c2
  | .wrap t, x, cs => KI t x cs
  | .unit, _, cs => cs = []
  | .fnc f, _, cs => cs = [fncV f]
  | .bx _ _, _, _ => False
  | .any, _, cs => ∃ v : Value, cs = [v] ∧ v.oneCell' = true
  | .lk _ t, (xs : List (el t)), cs => ∃ p, cs = [.pointer p] ∧ LkR w Fz (sz t) (fun x row => KI t x row) xs p
  | .mq _ t, (es : List (Int × el t)), cs => ∃ m, cs = [.map m] ∧ (∀ g, m = some g → Fz g ∧ MqB w (fun x v => ∃ c, OneV (isAg t) v c ∧ KI t x c) es g) ∧ (m = none → es = [])
  | .om _ _, _, _ => False
  | .dw _ _, _, _ => False
  | .fp t, x, cs => ∃ g o row, cs = [.pointer (some ⟨g, o, none⟩)] ∧ Fz g ∧ (∀ j u, row[j]? = some u → w.cell? ⟨g, o + j, none⟩ = some u) ∧ KI t x row
/-- The cells of a row, element by element. -/
def Rows (t : Ty) (xs : List (el t)) (vs : List Value) : Prop :=
  vs.length = xs.length * sz t ∧ ∀ i (hi : i < xs.length), KI w Fz t xs[i] ((vs.drop (i * sz t)).take (sz t))
end
section
variable {w w' : World} {Fz Fz' : Nat → Prop}
theorem LkR_imp {α : Type} {n : Nat} {K K' : α → List Value → Prop} (hf : ∀ b, Fz b → Fz' b) (hw : ∀ b, Fz b → w'.heap[b]? = w.heap[b]?) : ∀ {xs : List α} {p : Option Addr}, (∀ x ∈ xs, ∀ row, K x row → K' x row) → LkR w Fz n K xs p → LkR w' Fz' n K' xs p
  | [], _, _, h => h
  | x :: r, _, hk, h => by
    obtain ⟨g, o, row, q, rfl, hg, hl, hc, h1, h2⟩ := h
    exact ⟨g, o, row, q, rfl, hf g hg, hl, fun j u hj => (World.cell?_of_block (hw g hg)).trans (hc j u hj), hk x List.mem_cons_self row h1, LkR_imp hf hw (fun y hy => hk y (List.mem_cons_of_mem _ hy)) h2⟩
theorem MqE_imp {α : Type} {K K' : α → Value → Prop} : ∀ {es : List (Int × α)} {ms : List MapEntry}, (∀ e ∈ es, ∀ v, K e.2 v → K' e.2 v) → MqE K es ms → MqE K' es ms
  | [], [], _, _ => trivial
  | e :: es, m :: ms, hk, ⟨h1, h2, h3, h4⟩ => ⟨h1, h2, hk e List.mem_cons_self _ h3, MqE_imp (fun e he => hk e (List.mem_cons_of_mem _ he)) h4⟩
  | [], _ :: _, _, h => h.elim
  | _ :: _, [], _, h => h.elim
theorem KI_len : ∀ {t : Ty} {x : el t} {cs : List Value}, KI w Fz t x cs → cs.length = sz t
  | .int _, _, _, h => by rw [h]; rfl
  | .bool, _, _, h => by rw [h]; rfl
  | .str, _, _, h => by rw [h]; rfl
  | .sl _ _, _, _, h => by obtain ⟨A, c, rfl, _⟩ := h; rfl
  | .ow _ _, _, _, h => h.elim
  | .bx _ _, _, _, h => h.elim
  | .pair a b, x, _, h => by
    obtain ⟨c1, c2, rfl, h1, h2⟩ := h
    rw [List.length_append, KI_len h1, KI_len h2]; rfl
  | .wrap t, x, cs, h => KI_len (t := t) h
  | .unit, _, _, h => by rw [h]; rfl
  | .fnc _, _, _, h => by rw [h]; rfl
  | .any, _, _, h => by obtain ⟨v, rfl, _⟩ := h; rfl
  | .lk _ _, _, _, h => by obtain ⟨p, rfl, _⟩ := h; rfl
  | .fp _, _, _, h => by obtain ⟨g, o, row, rfl, _⟩ := h; rfl
  | .mq _ _, _, _, h => by obtain ⟨m, rfl, _⟩ := h; rfl
  | .om _ _, _, _, h => h.elim
  | .dw _ _, _, _, h => h.elim
theorem KI_one : ∀ {t : Ty} {x : el t} {cs : List Value}, KI w Fz t x cs → ∀ u ∈ cs, u.oneCell' = true
  | .int _, _, _, h => by rw [h]; intro u hu; rw [List.mem_singleton.1 hu]; rfl
  | .bool, _, _, h => by rw [h]; intro u hu; rw [List.mem_singleton.1 hu]; rfl
  | .str, _, _, h => by rw [h]; intro u hu; rw [List.mem_singleton.1 hu]; rfl
  | .sl _ _, _, _, h => by obtain ⟨A, c, rfl, _⟩ := h; intro u hu; rw [List.mem_singleton.1 hu]; rfl
  | .ow _ _, _, _, h => h.elim
  | .bx _ _, _, _, h => h.elim
  | .pair a b, x, _, h => by
    obtain ⟨c1, c2, rfl, h1, h2⟩ := h
    intro u hu
    rcases List.mem_append.1 hu with hu | hu
    · exact KI_one h1 u hu
    · exact KI_one h2 u hu
  | .wrap t, x, cs, h => KI_one (t := t) h
  | .unit, _, _, h => by rw [h]; intro u hu; cases hu
  | .fnc f, _, _, h => by rw [h]; intro u hu; rw [List.mem_singleton.1 hu]; exact fncV_one f
  | .any, _, _, h => by obtain ⟨v, rfl, hv⟩ := h; intro u hu; rw [List.mem_singleton.1 hu]; exact hv
  | .lk _ _, _, _, h => by obtain ⟨p, rfl, _⟩ := h; intro u hu; rw [List.mem_singleton.1 hu]; rfl
  | .fp _, _, _, h => by obtain ⟨g, o, row, rfl, _⟩ := h; intro u hu; rw [List.mem_singleton.1 hu]; rfl
  | .mq _ _, _, _, h => by obtain ⟨m, rfl, _⟩ := h; intro u hu; rw [List.mem_singleton.1 hu]; rfl
  | .om _ _, _, _, h => h.elim
  | .dw _ _, _, _, h => h.elim
theorem cell_eq {a : Addr} (h : w'.heap[a.block]? = w.heap[a.block]?) : w'.cell? a = w.cell? a := World.cell?_of_block h
theorem KI_mono (hf : ∀ b, Fz b → Fz' b) (hw : ∀ b, Fz b → w'.heap[b]? = w.heap[b]?) : ∀ {t : Ty} {x : el t} {cs : List Value}, KI w Fz t x cs → KI w' Fz' t x cs
  | .int _, _, _, h => h
  | .bool, _, _, h => h
  | .str, _, _, h => h
  | .sl _ t, xs, _, h => by
    obtain ⟨A, c, rfl, hl, hr⟩ := h
    refine ⟨A, c, rfl, hl, fun i hi => ?_⟩
    obtain ⟨g, o, row, rfl, hg, hc, hk⟩ := hr i hi
    exact ⟨g, o, row, rfl, hf g hg, fun j u hj => (cell_eq (hw g hg)).trans (hc j u hj), KI_mono hf hw hk⟩
  | .ow _ _, _, _, h => h.elim
  | .bx _ _, _, _, h => h.elim
  | .pair a b, x, _, h => by
    obtain ⟨c1, c2, rfl, h1, h2⟩ := h
    exact ⟨c1, c2, rfl, KI_mono hf hw h1, KI_mono hf hw h2⟩
  | .wrap t, x, cs, h => KI_mono (t := t) hf hw h
  | .unit, _, _, h => h
  | .fnc _, _, _, h => h
  | .any, _, _, h => h
  | .lk _ t, _, _, h => by
    obtain ⟨p, rfl, h1⟩ := h
    exact ⟨p, rfl, LkR_imp hf hw (fun x _ row hk => KI_mono (t := t) hf hw hk) h1⟩
  | .fp t, _, _, h => by
    obtain ⟨g, o, row, rfl, hg, hc, hk⟩ := h
    exact ⟨g, o, row, rfl, hf g hg, fun j u hj => (cell_eq (hw g hg)).trans (hc j u hj), KI_mono (t := t) hf hw hk⟩
  | .mq _ t, _, _, h => by
    obtain ⟨m, rfl, h1, h2⟩ := h
    refine ⟨m, rfl, fun g hg => ?_, h2⟩
    obtain ⟨hfz, arr, clk, hgg, he, hn⟩ := h1 g hg
    exact ⟨hf g hfz, arr, clk, (hw g hfz).trans hgg, MqE_imp (fun e _ v ⟨c, ho, hk⟩ => ⟨c, ho, KI_mono (t := t) hf hw hk⟩) he, hn⟩
  | .om _ _, _, _, h => h.elim
  | .dw _ _, _, _, h => h.elim
/-- Where there is no slice inside the world does not matter. -/
theorem KI_flat : ∀ {t : Ty} {x : el t} {cs : List Value}, flat t = true → KI w Fz t x cs → KI w' Fz' t x cs
  | .int _, _, _, _, h => h
  | .bool, _, _, _, h => h
  | .str, _, _, _, h => h
  | .sl _ _, _, _, hf, _ => by simp [flat] at hf
  | .ow _ _, _, _, hf, _ => by simp [flat] at hf
  | .bx _ _, _, _, hf, _ => by simp [flat] at hf
  | .fnc _, _, _, hf, _ => by simp [flat] at hf
  | .any, _, _, hf, _ => by simp [flat] at hf
  | .lk _ _, _, _, hf, _ => by simp [flat] at hf
  | .fp _, _, _, hf, _ => by simp [flat] at hf
  | .mq _ _, _, _, hf, _ => by simp [flat] at hf
  | .om _ _, _, _, hf, _ => by simp [flat] at hf
  | .dw _ _, _, _, hf, _ => by simp [flat] at hf
  | .pair a b, x, _, hf, h => by
    obtain ⟨c1, c2, rfl, h1, h2⟩ := h
    simp only [flat, Bool.and_eq_true] at hf
    exact ⟨c1, c2, rfl, KI_flat hf.1 h1, KI_flat hf.2 h2⟩
  | .wrap t, x, cs, hf, h => KI_flat (t := t) (by simpa [flat] using hf) h
  | .unit, _, _, _, h => h
theorem Rows_mono {t : Ty} {xs : List (el t)} {vs : List Value} (hf : ∀ b, Fz b → Fz' b) (hw : ∀ b, Fz b → w'.heap[b]? = w.heap[b]?) (h : Rows w Fz t xs vs) : Rows w' Fz' t xs vs :=
  ⟨h.1, fun i hi => KI_mono hf hw (h.2 i hi)⟩
theorem Rows_flat {t : Ty} {xs : List (el t)} {vs : List Value} (hf : flat t = true) (h : Rows w Fz t xs vs) : Rows w' Fz' t xs vs :=
  ⟨h.1, fun i hi => KI_flat hf (h.2 i hi)⟩
theorem Rows_nil {t : Ty} : Rows w Fz t [] [] := ⟨by simp, fun i hi => absurd hi (by simp)⟩
theorem Rows_app {t : Ty} {xs ys : List (el t)} {vs us : List Value} (h : Rows w Fz t xs vs) (h' : Rows w Fz t ys us) : Rows w Fz t (xs ++ ys) (vs ++ us) := by
  refine ⟨by rw [List.length_append, List.length_append, h.1, h'.1, Nat.add_mul], fun i hi => ?_⟩
  by_cases hx : i < xs.length
  · have h1 := h.2 i hx
    rw [List.getElem_append_left hx]
    have hle : (i + 1) * sz t ≤ xs.length * sz t := Nat.mul_le_mul_right _ hx
    rw [Nat.succ_mul] at hle
    rw [List.drop_append_of_le_length (by rw [h.1]; omega), List.take_append_of_le_length (by rw [List.length_drop, h.1]; omega)]
    exact h1
  · have hi' : i - xs.length < ys.length := by rw [List.length_append] at hi; omega
    have h2 := h'.2 (i - xs.length) hi'
    rw [List.getElem_append_right (by omega)]
    have e : (vs ++ us).drop (i * sz t) = us.drop ((i - xs.length) * sz t) := by
      have hm : i * sz t = xs.length * sz t + (i - xs.length) * sz t := by rw [← Nat.add_mul]; congr 1; omega
      rw [hm, ← h.1, List.drop_length_add_append]
    rw [e]; exact h2
theorem Rows_one {t : Ty} {x : el t} {vs : List Value} (h : KI w Fz t x vs) : Rows w Fz t [x] vs := by
  have hl := KI_len h
  refine ⟨by simpa using hl, fun i hi => ?_⟩
  obtain rfl : i = 0 := by simp at hi; omega
  simp only [Nat.zero_mul, List.drop_zero, List.getElem_cons_zero]
  rw [List.take_of_length_le (by omega)]
  exact h
theorem Rows_set {t : Ty} {xs : List (el t)} {vs : List Value} (h : Rows w Fz t xs vs) {i : Nat} (hi : i < xs.length) {y : el t} {us : List Value} (hy : KI w Fz t y us) :
    Rows w Fz t (xs.set i y) (vs.take (i * sz t) ++ us ++ vs.drop ((i + 1) * sz t)) := by
  have hl := KI_len hy
  have hle : (i + 1) * sz t ≤ xs.length * sz t := Nat.mul_le_mul_right _ hi
  have hm : (i + 1) * sz t = i * sz t + sz t := Nat.succ_mul ..
  have hvl := h.1
  refine ⟨by simp only [List.length_append, List.length_take, List.length_drop, List.length_set]; omega, fun j hj => ?_⟩
  rw [List.length_set] at hj
  have hlt : (vs.take (i * sz t)).length = i * sz t := by rw [List.length_take]; omega
  rcases Nat.lt_trichotomy j i with hji | rfl | hji
  · rw [List.getElem_set_ne (by omega)]
    have hle2 : (j + 1) * sz t ≤ i * sz t := Nat.mul_le_mul_right _ hji
    rw [Nat.succ_mul] at hle2
    rw [List.append_assoc, List.drop_append_of_le_length (by omega), List.take_append_of_le_length (by rw [List.length_drop]; omega), List.drop_take, List.take_take]
    have := h.2 j hj
    rwa [Nat.min_eq_left (by omega)]
  · rw [List.getElem_set_self, List.append_assoc]
    have e : ((vs.take (j * sz t) ++ (us ++ vs.drop ((j + 1) * sz t))).drop (j * sz t)).take (sz t) = us := by
      conv => lhs; rw [show (vs.take (j * sz t) ++ (us ++ vs.drop ((j + 1) * sz t))).drop (j * sz t) = us ++ vs.drop ((j + 1) * sz t) from by
        conv => lhs; arg 1; rw [← hlt]
        exact List.drop_left]
      rw [← hl]; exact List.take_left
    rw [e]; exact hy
  · rw [List.getElem_set_ne (by omega)]
    have hle2 : (i + 1) * sz t ≤ j * sz t := Nat.mul_le_mul_right _ hji
    have e : (vs.take (i * sz t) ++ us ++ vs.drop ((i + 1) * sz t)).drop (j * sz t) = vs.drop (j * sz t) := by
      have hj2 : j * sz t = (vs.take (i * sz t) ++ us).length + (j * sz t - (i + 1) * sz t) := by rw [List.length_append, hlt, hl]; omega
      rw [hj2, List.drop_length_add_append, List.drop_drop, List.length_append, hlt, hl]
      congr 1; omega
    rw [e]; exact h.2 j hj
end
end Go.Sx
