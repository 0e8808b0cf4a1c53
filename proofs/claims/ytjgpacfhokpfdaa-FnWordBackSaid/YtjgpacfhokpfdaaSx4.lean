/- How the plain machine's state stands to Go's: values, variables, rows of one's own. Any program. -/
import Derived.Test.YtjgpacfhokpfdaaSx3
set_option linter.unusedVariables false
namespace Go.Sx
open Go.RowKit

def blkV : Value → Option Nat
  | .pointer (some a) => some a.block
  | .slice (some a) _ _ => some a.block
  | .map (some g) => some g
  | _ => none
/-- A row with all that is in it: its value and its blocks, written as one value that stands for it among the names. -/
def ghost (v : Value) (bl : List Nat) : Value := .func (.func 0) #[v] (bl.map fun b : Nat => Value.int .i64 (b : Int)).toArray
/-- A value of which all rows are one's own; their blocks. -/
def DO (w : World) : (t : Ty) → el t → List Value → List Nat → Prop
  | .int k, n, cs, bl => cs = [.int k n] ∧ bl = []
  | .bool, b, cs, bl => cs = [.bool b] ∧ bl = []
  | .str, s, cs, bl => cs = [.string s] ∧ bl = []
  | .sl e t, (xs : List (el t)), cs, bl => ∃ (v : Value) (vs : List Value) (bls : List (List Nat)), cs = [v] ∧ w.ownsRow 0 e (sz t) v xs.length vs ∧ vs.length = xs.length * sz t ∧ bls.length = xs.length ∧
      (∀ i (hi : i < xs.length), DO w t xs[i] ((vs.drop (i * sz t)).take (sz t)) (bls.getD i [])) ∧ bl = (blkV v).toList ++ bls.flatten
  | .pair a b, x, cs, bl => ∃ c1 c2 b1 b2, cs = c1 ++ c2 ∧ bl = b1 ++ b2 ∧ DO w a x.1 c1 b1 ∧ DO w b x.2 c2 b2
  | .wrap t, x, cs, bl => DO w t x cs bl
  | .unit, _, cs, bl => cs = [] ∧ bl = []
  | .ow _ _, _, _, _ | .fnc _, _, _, _ | .bx _ _, _, _, _ | .any, _, _, _ | .lk _ _, _, _, _ | .fp _, _, _, _ | .mq _ _, _, _, _ | .om _ _, _, _, _ | .dw _ _, _, _, _ => False
theorem DO_mono {w w' : World} : ∀ {t : Ty} {x : el t} {cs : List Value} {bl : List Nat}, (∀ b ∈ bl, w'.heap[b]? = w.heap[b]?) → DO w t x cs bl → DO w' t x cs bl
  | .int _, _, _, _, _, h => h
  | .bool, _, _, _, _, h => h
  | .str, _, _, _, _, h => h
  | .unit, _, _, _, _, h => h
  | .wrap t, x, cs, bl, hb, h => DO_mono (t := t) hb h
  | .pair a b, x, cs, bl, hb, h => by
    obtain ⟨c1, c2, b1, b2, rfl, rfl, h1, h2⟩ := h
    exact ⟨c1, c2, b1, b2, rfl, rfl, DO_mono (fun b hm => hb b (List.mem_append_left _ hm)) h1, DO_mono (fun b hm => hb b (List.mem_append_right _ hm)) h2⟩
  | .sl e t, xs, cs, bl, hb, h => by
    obtain ⟨v, vs, bls, rfl, ho, hl, hn, hr, rfl⟩ := h
    refine ⟨v, vs, bls, rfl, ⟨ho.1, ?_⟩, hl, hn, fun i hi => DO_mono (fun b hm => hb b (List.mem_append_right _ ?_)) (hr i hi), rfl⟩
    · rcases ho.2 with hv | ⟨g, cap, cur, rfl, hbg, hgg, rest⟩
      · exact .inl hv
      · exact .inr ⟨g, cap, cur, rfl, hbg, (hb g (List.mem_append_left _ (by simp [blkV]))).trans hgg, rest⟩
    · rw [List.getD_eq_getElem?_getD, List.getElem?_eq_getElem (by rw [hn]; exact hi)] at hm
      exact List.mem_flatten.2 ⟨_, List.getElem_mem _, hm⟩
/-- A cell of which all rows are one's own. -/
def DC (w : World) : AC → Value → List Nat → Prop
  | .int k n, v, b => v = .int k n ∧ b = []
  | .bool q, v, b => v = .bool q ∧ b = []
  | .str s, v, b => v = .string s ∧ b = []
  | .sl e t xs, v, b => DO w (.sl e t) xs [v] b
  | _, _, _ => False
theorem DC_mono {w w' : World} {c : AC} {v : Value} {b : List Nat} (hb : ∀ k ∈ b, w'.heap[k]? = w.heap[k]?) (h : DC w c v b) : DC w' c v b := by
  cases c with
  | sl e t xs => exact DO_mono hb h
  | _ => exact h
/-- What a name's value stands for. -/
def gval : Value → Value
  | .func _ av _ => av.toList.headD (.int .i64 0)
  | v => v
/-- A slice of a variable's cells. -/
def slV : List Value → Value
  | [.pointer a, .int _ n] => .slice a n.toNat n.toNat
  | _ => .nilFunc
def spV (f : Nat) (cv : Array Value) : Value := cond (Nat.beq f ixB) .nilIface (cond (Nat.beq f (ixB + 1)) (slV cv.toList) (.iface (f - (ixB + 2)) (cv.toList.headD .nilFunc)))
def fnV (f : Nat) (cv : Array Value) : Value := cond (Nat.blt f bmB || Nat.beq cv.size 0) (.func (.func f) #[] cv) (cond (Nat.blt f ixB) (.func (.func (f - bmB)) cv #[]) (spV f cv))
theorem fnV_nil (f : Nat) : fnV f #[] = .func (.func f) #[] #[] := by unfold fnV; rw [show Nat.beq (#[] : Array Value).size 0 = true from rfl, Bool.or_true]; rfl
theorem fnV_lt {f : Nat} {cv : Array Value} (h : Nat.blt f bmB = true) : fnV f cv = .func (.func f) #[] cv := by unfold fnV; rw [h]; rfl
theorem fnV_bm {f : Nat} {cv : Array Value} (h : Nat.beq cv.size 0 = false) (hx : Nat.blt (f + bmB) ixB = true) : fnV (f + bmB) cv = .func (.func f) cv #[] := by
  have h1 : Nat.blt (f + bmB) bmB = false := by
    cases hb : Nat.blt (f + bmB) bmB with
    | false => rfl
    | true => have := Nat.le_of_ble_eq_true hb; unfold bmB at this; omega
  unfold fnV; rw [h1, h, hx]
  simp
theorem ixB_bm : Nat.blt ixB bmB = false := by decide
theorem fnV_inil : fnV ixB #[.bool true] = .nilIface := rfl
theorem fnV_ix {f : Nat} (hf : Nat.blt f ixB = false) {cv : Array Value} (h : Nat.beq cv.size 0 = false) : fnV f cv = spV f cv := by
  have h1 : Nat.blt f bmB = false := by
    cases hb : Nat.blt f bmB with
    | false => rfl
    | true =>
      have := Nat.le_of_ble_eq_true hb
      have h2 : Nat.blt f ixB = true := Nat.ble_eq_true_of_le (by unfold bmB at this; unfold ixB; omega)
      rw [h2] at hf; cases hf
  unfold fnV; rw [h1, h, hf]
  rfl
theorem slV_one (l : List Value) : (slV l).oneCell' = true := by
  unfold slV
  split <;> rfl
theorem spV_one (f : Nat) (cv : Array Value) : (spV f cv).oneCell' = true := by
  unfold spV
  cases Nat.beq f ixB with
  | true => rfl
  | false =>
    cases Nat.beq f (ixB + 1) with
    | true => exact slV_one _
    | false => rfl
theorem fnV_fnc (f : Nat) : ∃ cv, fncV f = fnV f cv ∧ (Nat.beq f ixB = true ∧ cv = #[.bool true] ∨ Nat.beq f ixB = false ∧ cv = #[]) := by
  unfold fncV
  cases hb : Nat.beq f ixB with
  | true =>
    obtain rfl := Nat.eq_of_beq_eq_true hb
    exact ⟨#[.bool true], rfl, .inl ⟨rfl, rfl⟩⟩
  | false => exact ⟨#[], (fnV_nil f).symm, .inr ⟨rfl, rfl⟩⟩
section
variable (w : World) (ρ : Nat → Option Value) (Fz : Nat → Prop)
def ACRep0 : AC → Value → Prop
  | .undef, _ => True
  | .int k n, v => v = .int k n
  | .bool b, v => v = .bool b
  | .str s, v => v = .string s
  | .sl e t xs, v => KI w Fz (.sl e t) xs [v]
  | .nilsl, v => v = .slice none 0 0
  | .o id, v => ∃ u, ρ id = some u ∧ gval u = v ∧ v.oneCell' = true
  | .p id off, v => ∃ g, ρ id = some (.pointer (some ⟨g, 0, none⟩)) ∧ v = .pointer (some ⟨g, off, none⟩)
  | .pe id s i off, v => ∃ g n c, (∃ u, ρ id = some u ∧ gval u = .slice (some ⟨g, 0, none⟩) n c) ∧ v = .pointer (some ⟨g, i.toNat * s + off, none⟩)
  | .pr t x off, v => ∃ g o row, Fz g ∧ v = .pointer (some ⟨g, o + off, none⟩) ∧ (∀ j u, row[j]? = some u → w.cell? ⟨g, o + j, none⟩ = some u) ∧ KI w Fz t x row
  | .pnil, v => v = .pointer none
  | .lk L t xs, v => KI w Fz (.lk L t) xs [v]
  | .mr T t es, v => KI w Fz (.mq T t) es [v]
  | .slk q e t xs, v => KI w Fz (.sl e t) xs [v] ∧ ∃ p n c, v = .slice p n c ∧ p.isNone = q
  | .fn _ _, _ => False
def ACRep : AC → Value → Prop
  | .fn f caps, v => ∃ cv, v = fnV f cv ∧ All2 (ACRep0 w ρ Fz) caps cv.toList
  | c, v => ACRep0 w ρ Fz c v
def AVRep : AV → Value → Prop
  | .one c, v => ACRep w ρ Fz c v
  | .agg cs, v => ∃ cv, v = .agg cv ∧ All2 (ACRep w ρ Fz) cs cv.toList
def TVRep : TV → Value → Prop
  | .v a, v => AVRep w ρ Fz a v
  | .tup vs, v => ∃ tv, v = .tuple tv ∧ All2 (AVRep w ρ Fz) vs tv.toList
def keyV (ns : List Int) : Value := .agg (ns.map (Value.int .i64)).toArray
def MapR (n : Nat) : List (List Int × Int) → Nat → List MapEntry → Prop
  | [], _, [] => True
  | e :: es, i, m :: ms => m = { key := keyV e.1, val := .int .i64 e.2, born := i } ∧ e.1.length = n ∧ (∀ x ∈ e.1, (Lit.int .i64 x).wf = true) ∧ MapR n es (i + 1) ms
  | _, _, _ => False
def ObjRep (v : Value) : Obj → Prop
  | .box ty cs => ∃ g cv, v = .pointer (some ⟨g, 0, none⟩) ∧ w.heap[g]? = some (.cells cv ty (0, 0)) ∧ All2 (ACRep w ρ Fz) cs cv.toList
  | .own e t xs => ∃ vs, w.ownsRow 0 e (sz t) v xs.length vs ∧ Rows w Fz t xs vs
  | .fro e t xs => KI w Fz (.sl e t) xs [gval v]
  | .mq T t es => ∃ g, v = .map (some g) ∧ MqB w (fun x v => ∃ c, OneV (isAg t) v c ∧ KI w Fz t x c) es g
  | .dp e t xs => ∃ u bl, v = ghost u bl ∧ DO w (.sl e t) xs [u] bl ∧ bl.Nodup
  | .dh e t xs i off nm => ∃ u b1 b2 uu, v = ghost u (b1 ++ b2) ∧ ρ nm = some uu ∧ (b1 ++ b2).Nodup ∧
      ∀ (w' : World) (c : AC) (b : List Nat) (y : el t), (∀ k ∈ b1 ++ b2, w'.heap[k]? = w.heap[k]?) → DC w' c (gval uu) b → decAll noH t (setAt (cells t (xs.getD i (dflt t))) off [c]) = some y → DO w' (.sl e t) (xs.set i y) [u] (b1 ++ b ++ b2)
  | .mp T n es => ∃ g arr, v = .map (some g) ∧ w.heap[g]? = some (.map arr es.length) ∧ MapR n es 0 arr.toList ∧ (es.map (·.1)).Nodup
end
def Obj.wr : Obj → Bool
  | .fro _ _ _ => false
  | _ => true
def gInt : Value → Option Nat
  | .int _ n => some n.toNat
  | _ => none
def BlkOf : Value → Nat → Prop
  | .func _ _ cv, b => b ∈ cv.toList.filterMap gInt
  | v, b => blkV v = some b
def blksV : Value → List Nat
  | .func _ _ cv => cv.toList.filterMap gInt
  | v => (blkV v).toList
theorem mem_blksV {v : Value} {b : Nat} : b ∈ blksV v ↔ BlkOf v b := by
  unfold blksV BlkOf
  split
  · exact Iff.rfl
  · rename_i h
    rw [Option.mem_toList]
    split
    · rename_i f a cv; exact absurd rfl (h f a cv)
    · exact Iff.rfl
theorem blkOf {v : Value} {b : Nat} (h : blkV v = some b) : BlkOf v b := by
  cases v with
  | func f a cv => cases h
  | _ => exact h
theorem ghost_blks (v : Value) (bl : List Nat) : blksV (ghost v bl) = bl := by
  show ((bl.map fun b : Nat => Value.int .i64 (b : Int)).toArray).toList.filterMap gInt = bl
  induction bl with
  | nil => rfl
  | cons x r ih =>
    simp only [List.map_cons, List.filterMap_cons, gInt, Int.toNat_natCast]
    exact congrArg (x :: ·) ih
/-- The object of that name may be written, and lies in that block. -/
def Live (h : Hp) (ρ : Nat → Option Value) (id b : Nat) : Prop := ∃ o v, h id = some o ∧ o.wr = true ∧ ρ id = some v ∧ BlkOf v b

/-- A name stands for the same; the blocks behind it may be others. -/
def SameN (v : Value) (o : Option Value) : Prop := o = some v ∨ ∃ u bl bl', v = ghost u bl ∧ o = some (ghost u bl')
theorem SameN.ptr {a : Option Addr} {o : Option Value} (h : SameN (.pointer a) o) : o = some (.pointer a) := by
  rcases h with h | ⟨u, bl, bl', h, _⟩
  · exact h
  · unfold ghost at h; cases h
theorem SameN.sl {a : Option Addr} {n c : Nat} {o : Option Value} (h : SameN (.slice a n c) o) : o = some (.slice a n c) := by
  rcases h with h | ⟨u, bl, bl', h, _⟩
  · exact h
  · unfold ghost at h; cases h
theorem SameN.gval {v : Value} {o : Option Value} (h : SameN v o) : ∃ v', o = some v' ∧ gval v' = gval v := by
  rcases h with h | ⟨u, bl, bl', rfl, h⟩
  · exact ⟨v, h, rfl⟩
  · exact ⟨_, h, rfl⟩
theorem SameN.bind {ρ' : Nat → Option Value} {v : Value} {o : Option Value} {f : Value → Prop} (h : SameN v o) : ∃ v', o = some v' ∧ ∀ o', SameN v' o' → SameN v o' := by
  rcases h with h | ⟨u, bl, bl', rfl, h⟩
  · exact ⟨v, h, fun _ h => h⟩
  · refine ⟨_, h, fun o' h' => ?_⟩
    rcases h' with h' | ⟨u', c, c', e, h'⟩
    · exact .inr ⟨u, bl, bl', rfl, h'⟩
    · have : u = u' := by have := congrArg Go.Sx.gval e; exact this
      subst this
      exact .inr ⟨u, bl, c', rfl, h'⟩
/-- What is kept of names, of what is read, and of what is read's blocks. -/
structure Mono (w : World) (ρ : Nat → Option Value) (Fz : Nat → Prop) (w' : World) (ρ' : Nat → Option Value) (Fz' : Nat → Prop) : Prop where
  nm : ∀ id v, ρ id = some v → SameN v (ρ' id)
  fz : ∀ b, Fz b → Fz' b
  wd : ∀ b, Fz b → w'.heap[b]? = w.heap[b]?
section
variable {w w' : World} {ρ ρ' : Nat → Option Value} {Fz Fz' : Nat → Prop}
theorem Mono.refl (w : World) (ρ : Nat → Option Value) (Fz : Nat → Prop) : Mono w ρ Fz w ρ Fz := ⟨fun _ _ h => .inl h, fun _ h => h, fun _ _ => rfl⟩
theorem Mono.trans {w2 : World} {ρ2 : Nat → Option Value} {Fz2 : Nat → Prop} (h : Mono w ρ Fz w' ρ' Fz') (h' : Mono w' ρ' Fz' w2 ρ2 Fz2) : Mono w ρ Fz w2 ρ2 Fz2 :=
  ⟨fun id v e => by obtain ⟨v', e', k⟩ := (h.nm id v e).bind (ρ' := ρ) (f := fun _ => True); exact k _ (h'.nm id v' e'), fun b e => h'.fz b (h.fz b e), fun b e => (h'.wd b (h.fz b e)).trans (h.wd b e)⟩
theorem ACRep0_mono (m : Mono w ρ Fz w' ρ' Fz') : ∀ {c : AC} {v : Value}, ACRep0 w ρ Fz c v → ACRep0 w' ρ' Fz' c v
  | .undef, _, _ => trivial
  | .int _ _, _, h => h
  | .bool _, _, h => h
  | .str _, _, h => h
  | .sl _ _ _, _, h => KI_mono m.fz m.wd h
  | .nilsl, _, h => h
  | .o id, _, h => let ⟨u, h1, h2, h3⟩ := h; let ⟨u', h4, h5⟩ := (m.nm _ _ h1).gval; ⟨u', h4, h5.trans h2, h3⟩
  | .p id off, _, h => by obtain ⟨g, h1, h2⟩ := h; exact ⟨g, (m.nm _ _ h1).ptr, h2⟩
  | .pe id s i off, _, h => by obtain ⟨g, n, c, ⟨u, h1, h3⟩, h2⟩ := h; obtain ⟨u', h4, h5⟩ := (m.nm _ _ h1).gval; exact ⟨g, n, c, ⟨u', h4, h5.trans h3⟩, h2⟩
  | .pr t x off, _, h => by
    obtain ⟨g, o, row, h1, h2, h3, h4⟩ := h
    exact ⟨g, o, row, m.fz _ h1, h2, fun j u hj => (cell_eq (m.wd _ h1)).trans (h3 j u hj), KI_mono m.fz m.wd h4⟩
  | .pnil, _, h => h
  | .lk _ _ _, _, h => KI_mono m.fz m.wd h
  | .slk _ _ _ _, _, h => ⟨KI_mono m.fz m.wd h.1, h.2⟩
  | .mr _ _ _, _, h => KI_mono m.fz m.wd h
  | .fn _ _, _, h => h.elim
theorem ACRep_of0 : ∀ {c : AC} {v : Value}, ACRep0 w ρ Fz c v → ACRep w ρ Fz c v
  | .undef, _, h | .int _ _, _, h | .bool _, _, h | .str _, _, h | .sl _ _ _, _, h | .nilsl, _, h | .o _, _, h | .p _ _, _, h | .pe _ _ _ _, _, h | .pr _ _ _, _, h | .lk _ _ _, _, h | .slk _ _ _ _, _, h | .mr _ _ _, _, h | .pnil, _, h => h
  | .fn _ _, _, h => h.elim
theorem ACRep_mono (m : Mono w ρ Fz w' ρ' Fz') {c : AC} {v : Value} (h : ACRep w ρ Fz c v) : ACRep w' ρ' Fz' c v := by
  cases c with
  | fn f caps => obtain ⟨cv, rfl, h2⟩ := h; exact ⟨cv, rfl, h2.imp fun _ _ => ACRep0_mono m⟩
  | undef => exact trivial
  | int k n => exact h
  | bool b => exact h
  | str s => exact h
  | sl e t xs => exact ACRep0_mono (c := .sl e t xs) m h
  | nilsl => exact h
  | o id => exact ACRep0_mono (c := .o id) m h
  | p id off => exact ACRep0_mono (c := .p id off) m h
  | pe id s i off => exact ACRep0_mono (c := .pe id s i off) m h
  | pr t x off => exact ACRep0_mono (c := .pr t x off) m h
  | pnil => exact h
  | lk L t xs => exact ACRep0_mono (c := .lk L t xs) m h
  | slk q e t xs => exact ACRep0_mono (c := .slk q e t xs) m h
  | mr T t es => exact ACRep0_mono (c := .mr T t es) m h
theorem AVRep_mono (m : Mono w ρ Fz w' ρ' Fz') {a : AV} {v : Value} (h : AVRep w ρ Fz a v) : AVRep w' ρ' Fz' a v := by
  cases a with
  | one c => exact ACRep_mono m h
  | agg cs => obtain ⟨cv, rfl, h2⟩ := h; exact ⟨cv, rfl, h2.imp fun _ _ => ACRep_mono m⟩
theorem TVRep_mono (m : Mono w ρ Fz w' ρ' Fz') {a : TV} {v : Value} (h : TVRep w ρ Fz a v) : TVRep w' ρ' Fz' a v := by
  cases a with
  | v a => exact AVRep_mono m h
  | tup vs => obtain ⟨cv, rfl, h2⟩ := h; exact ⟨cv, rfl, h2.imp fun _ _ => AVRep_mono m⟩
theorem slV_of {f id off : Nat} {k : IntKind} {m : Int} {cv : Array Value} (hf : Nat.beq f (ixB + 1) = true) (hc : All2 (ACRep0 w ρ Fz) [.p id off, .int k m] cv.toList) :
    ∃ g, ρ id = some (.pointer (some ⟨g, 0, none⟩)) ∧ fnV f cv = .slice (some ⟨g, off, none⟩) m.toNat m.toNat := by
  obtain rfl := Nat.eq_of_beq_eq_true hf
  match hcv : cv.toList, hc with
  | [u, v], ⟨⟨g, h1, h2⟩, h3, _⟩ =>
    obtain rfl : v = .int k m := h3
    subst h2
    have hs : Nat.beq cv.size 0 = false := by
      have : cv.size = 2 := by rw [← Array.length_toList, hcv]; rfl
      rw [this]; rfl
    refine ⟨g, h1, ?_⟩
    rw [fnV_ix (by decide) hs]
    unfold spV
    rw [hcv]
    rfl
/-- What is read, cell by cell. -/
theorem KI_cells (ρ : Nat → Option Value) : ∀ {t : Ty} {x : el t} {cs : List Value}, KI w Fz t x cs → All2 (ACRep w ρ Fz) (cells t x) cs
  | .int _, _, _, h => by rw [h]; exact ⟨rfl, trivial⟩
  | .bool, _, _, h => by rw [h]; exact ⟨rfl, trivial⟩
  | .str, _, _, h => by rw [h]; exact ⟨rfl, trivial⟩
  | .sl e t, xs, cs, h => by
    obtain ⟨A, c, rfl, h2⟩ := h
    exact ⟨⟨A, c, rfl, h2⟩, trivial⟩
  | .ow _ _, _, _, h => h.elim
  | .bx _ _, _, _, h => h.elim
  | .pair a b, x, _, h => by
    obtain ⟨c1, c2, rfl, h1, h2⟩ := h
    exact (KI_cells ρ h1).app (KI_cells ρ h2)
  | .wrap t, x, cs, h => KI_cells ρ (t := t) h
  | .unit, _, _, h => by rw [h]; exact trivial
  | .fnc f, _, _, h => by
    rw [h]
    obtain ⟨cv, h1, ⟨h2, rfl⟩ | ⟨h2, rfl⟩⟩ := fnV_fnc f
    · refine ⟨?_, trivial⟩
      show ACRep w ρ Fz (.fn f (cond (Nat.beq f ixB) [.bool true] [])) _
      rw [h2]
      exact ⟨_, h1, rfl, trivial⟩
    · refine ⟨?_, trivial⟩
      show ACRep w ρ Fz (.fn f (cond (Nat.beq f ixB) [.bool true] [])) _
      rw [h2]
      exact ⟨_, h1, trivial⟩
  | .any, _, _, h => by obtain ⟨v, rfl, _⟩ := h; exact ⟨trivial, trivial⟩
  | .lk L t, _, _, h => by
    obtain ⟨p, rfl, h1⟩ := h
    exact ⟨⟨p, rfl, h1⟩, trivial⟩
  | .fp t, _, _, h => by
    obtain ⟨g, o, row, rfl, hg, hc, hk⟩ := h
    exact ⟨⟨g, o, row, hg, rfl, hc, hk⟩, trivial⟩
  | .mq T t, _, _, h => by
    obtain ⟨m, rfl, h1⟩ := h
    exact ⟨⟨m, rfl, h1⟩, trivial⟩
  | .om _ _, _, _, h => h.elim
  | .dw _ _, _, _, h => h.elim
theorem cells_len : ∀ (t : Ty) (x : el t), (cells t x).length = sz t
  | .int _, _ | .bool, _ | .str, _ | .sl _ _, _ | .ow _ _, _ | .fnc _, _ | .bx _ _, _ | .any, _ | .lk _ _, _ | .fp _, _ | .mq _ _, _ | .om _ _, _ | .dw _ _, _ | .unit, _ => rfl
  | .pair a b, x => by simp only [cells, List.length_append, cells_len a x.1, cells_len b x.2, sz]
  | .wrap t, x => cells_len t x
/-- A cell that is known is of one cell. -/
theorem ACRep_one {c : AC} {v : Value} (h : ACRep w ρ Fz c v) (hu : c.isU = false) (ho : ∀ id u, ρ id = some u → u.oneCell' = true) : v.oneCell' = true := by
  cases c with
  | undef => simp [AC.isU] at hu
  | int k n => obtain rfl := h; rfl
  | bool b => obtain rfl := h; rfl
  | str s => obtain rfl := h; rfl
  | sl e t xs => obtain ⟨A, c, h, _⟩ := h; simp at h; subst h; rfl
  | nilsl => obtain rfl := h; rfl
  | o id => obtain ⟨u, h1, _, h2⟩ := h; exact h2
  | p id off => obtain ⟨g, _, rfl⟩ := h; rfl
  | pe id s i off => obtain ⟨g, n, c, _, rfl⟩ := h; rfl
  | pr t x off => obtain ⟨g, o, row, _, rfl, _⟩ := h; rfl
  | pnil => obtain rfl := h; rfl
  | lk L t xs => obtain ⟨p, h, _⟩ := h; simp at h; subst h; rfl
  | slk q e t xs => obtain ⟨_, p, n, c, rfl, _⟩ := h; rfl
  | mr T t es => obtain ⟨m, h, _⟩ := h; simp at h; subst h; rfl
  | fn f caps =>
    obtain ⟨cv, rfl, _⟩ := h
    unfold fnV
    cases (Nat.blt f bmB || Nat.beq cv.size 0) with
    | true => rfl
    | false =>
      cases Nat.blt f ixB with
      | true => rfl
      | false => exact spV_one f cv
end

/-- THE MEMORY: w0: where the call began; T: the blocks that were handed on to be written; Fz0: what was read then; U: the names that are used up. -/
structure RelM (w0 : World) (T Fz0 : Nat → Prop) (U : Nat → Prop) (h : Hp) (ρ : Nat → Option Value) (Fz : Nat → Prop) (w : World) : Prop where
  env : Below 0 w0 w
  frame : ∀ b, b < w0.heap.size → ¬ T b → w.heap[b]? = w0.heap[b]?
  fz0 : ∀ b, Fz0 b → Fz b
  fzlt : ∀ b, Fz b → b < w.heap.size
  fznew : ∀ b, Fz b → Fz0 b ∨ T b ∨ w0.heap.size ≤ b
  dom : ∀ id v, ρ id = some v → U id ∧ v.oneCell' = true
  objs : ∀ id o, h id = some o → ∃ v, ρ id = some v ∧ ObjRep w ρ Fz v o
  mt : ∀ id b, Live h ρ id b → ¬ Fz b ∧ b < w.heap.size ∧ (T b ∨ w0.heap.size ≤ b)
  dis : ∀ id id' b, Live h ρ id b → Live h ρ id' b → id = id'

section
variable {w0 w w' : World} {T Fz0 Fz Fz' U U' : Nat → Prop} {h h' : Hp} {ρ ρ' : Nat → Option Value}
theorem ObjRep_mono (m : Mono w ρ Fz w' ρ' Fz') {v : Value} {o : Obj} (hb : ∀ b, o.wr = true → BlkOf v b → w'.heap[b]? = w.heap[b]?) (ho : ObjRep w ρ Fz v o) : ObjRep w' ρ' Fz' v o := by
  cases o with
  | box ty cs =>
    obtain ⟨g, cv, rfl, hg, hc⟩ := ho
    exact ⟨g, cv, rfl, (hb g rfl rfl).trans hg, hc.imp fun _ _ => ACRep_mono m⟩
  | own e t xs =>
    obtain ⟨vs, ho, hr⟩ := ho
    refine ⟨vs, ⟨ho.1, ?_⟩, Rows_mono m.fz m.wd hr⟩
    rcases ho.2 with hn | ⟨g, cap, cur, rfl, hbg, hgg, rest⟩
    · exact .inl hn
    · exact .inr ⟨g, cap, cur, rfl, hbg, (hb g rfl rfl).trans hgg, rest⟩
  | fro e t xs => exact KI_mono m.fz m.wd ho
  | mp T n es =>
    obtain ⟨g, arr, rfl, hg, hr⟩ := ho
    exact ⟨g, arr, rfl, (hb g rfl rfl).trans hg, hr⟩
  | dp e t xs =>
    obtain ⟨u, bl, rfl, hd, hn⟩ := ho
    exact ⟨u, bl, rfl, DO_mono (fun b hm => hb b rfl (mem_blksV.1 (by rw [ghost_blks]; exact hm))) hd, hn⟩
  | dh e t xs i off nm =>
    obtain ⟨u, b1, b2, uu, rfl, hn, hd, hk⟩ := ho
    obtain ⟨uu', hn', hg⟩ := (m.nm nm uu hn).gval
    refine ⟨u, b1, b2, uu', rfl, hn', hd, fun w2 c b y hw hc => ?_⟩
    rw [hg] at hc
    exact hk w2 c b y (fun k hm => (hw k hm).trans (hb k rfl (mem_blksV.1 (by rw [ghost_blks]; exact hm)))) hc
  | mq T t es =>
    obtain ⟨g, rfl, arr, clk, hg, he, hn⟩ := ho
    exact ⟨g, rfl, arr, clk, (hb g rfl rfl).trans hg, MqE_imp (fun e _ v ⟨c, ho, hk⟩ => ⟨c, ho, KI_mono (t := t) m.fz m.wd hk⟩) he, hn⟩

theorem DO_sl {e : Nat} {t : Ty} {xs : List (el t)} {cs : List Value} {bl : List Nat} (h : DO w (.sl e t) xs cs bl) : ∃ v, cs = [v] ∧ v.oneCell' = true ∧ gval v = v := by
  obtain ⟨v, vs, bls, rfl, ho, _⟩ := h
  · rcases ho.2 with ⟨rfl, hn⟩ | ⟨g, cap, cur, rfl, _⟩ <;> exact ⟨_, rfl, rfl, rfl⟩
theorem DO_one {e : Nat} {t : Ty} {xs : List (el t)} {v : Value} {bl : List Nat} (h : DO w (.sl e t) xs [v] bl) : v.oneCell' = true ∧ gval v = v := by
  obtain ⟨v', hv, h⟩ := DO_sl h
  cases hv
  exact h
theorem DO_nil {e : Nat} {t : Ty} : DO w (.sl e t) ([] : List (el t)) [.slice none 0 0] [] :=
  ⟨_, [], [], rfl, World.ownsRow_nil .., by simp, rfl, fun i hi => absurd hi (Nat.not_lt_zero _), rfl⟩
/-- What is nothing yet: no rows in it. -/
theorem DO_dflt : ∀ {t : Ty} {cs : List Value}, deepT t = true → (cs.map ofConst1).any AC.isU = false → KI w Fz t (dflt t) cs → DO w t (dflt t) cs []
  | .int _, _, _, _, h => ⟨h, rfl⟩
  | .bool, _, _, _, h => ⟨h, rfl⟩
  | .str, _, _, _, h => ⟨h, rfl⟩
  | .unit, _, _, _, h => ⟨h, rfl⟩
  | .wrap t, _, ht, hu, h => DO_dflt (t := t) (by simpa [deepT] using ht) hu h
  | .pair a b, _, ht, hu, h => by
    obtain ⟨c1, c2, rfl, h1, h2⟩ := h
    simp only [deepT, Bool.and_eq_true] at ht
    rw [List.map_append, List.any_append, Bool.or_eq_false_iff] at hu
    exact ⟨c1, c2, [], [], rfl, rfl, DO_dflt ht.1 hu.1 h1, DO_dflt ht.2 hu.2 h2⟩
  | .sl e t, _, _, hu, h => by
    obtain ⟨A, c, rfl, _⟩ := h
    have h0 : ofConst1 (.slice A 0 c) = .nilsl ∨ ofConst1 (.slice A 0 c) = .undef := by
      cases A with
      | some a => exact .inr rfl
      | none =>
        show cond (Nat.beq 0 0 && Nat.beq c 0) AC.nilsl .undef = _ ∨ _
        cases c with
        | zero => exact .inl rfl
        | succ c => exact .inr rfl
    cases A with
    | some a => cases hu
    | none =>
      cases c with
      | succ c => cases hu
      | zero => exact DO_nil
/-- What holds no rows, read: nothing in it is another's. -/
theorem DO_flat : ∀ {t : Ty} {x : el t} {cs : List Value}, flat t = true → KI w Fz t x cs → DO w t x cs []
  | .int _, _, _, _, h => ⟨h, rfl⟩
  | .bool, _, _, _, h => ⟨h, rfl⟩
  | .str, _, _, _, h => ⟨h, rfl⟩
  | .unit, _, _, _, h => ⟨h, rfl⟩
  | .wrap t, _, _, ht, h => DO_flat (t := t) (by simpa [flat] using ht) h
  | .pair a b, _, _, ht, h => by
    obtain ⟨c1, c2, rfl, h1, h2⟩ := h
    simp only [flat, Bool.and_eq_true] at ht
    exact ⟨c1, c2, [], [], rfl, rfl, DO_flat ht.1 h1, DO_flat ht.2 h2⟩
/-- A row of one's own whose elements hold no rows. -/
theorem DO_own {e : Nat} {t : Ty} {xs : List (el t)} {v : Value} {vs : List Value} (ht : flat t = true) (ho : w.ownsRow 0 e (sz t) v xs.length vs) (hr : Rows w Fz t xs vs) : DO w (.sl e t) xs [v] (blkV v).toList := by
  refine ⟨v, vs, List.replicate xs.length [], rfl, ho, hr.1, by simp, fun i hi => ?_, ?_⟩
  · have : (List.replicate xs.length ([] : List Nat)).getD i [] = [] := by
      rw [List.getD_eq_getElem?_getD]
      cases h : (List.replicate xs.length ([] : List Nat))[i]? with
      | none => rfl
      | some b => have := List.mem_of_getElem? h; rw [List.mem_replicate] at this; rw [this.2]; rfl
    rw [this]
    exact DO_flat ht (hr.2 i hi)
  · have : ∀ n, (List.replicate n ([] : List Nat)).flatten = [] := by intro n; induction n with
      | zero => rfl
      | succ n ih => rw [List.replicate_succ, List.flatten_cons, ih]; rfl
    rw [this, List.append_nil]
/-- What an object's name stands for. -/
theorem RelM.oRep (R : RelM w0 T Fz0 U h ρ Fz w) {id : Nat} {o : Obj} {v : Value} (ho : h id = some o) (hx : ACRep w ρ Fz (.o id) v) : ∃ u, ρ id = some u ∧ ObjRep w ρ Fz u o ∧ gval u = v := by
  obtain ⟨u, h1, h2, _⟩ := (hx : ∃ u, ρ id = some u ∧ gval u = v ∧ v.oneCell' = true)
  obtain ⟨u', h1', hr⟩ := R.objs id o ho
  rw [h1] at h1'; cases h1'
  exact ⟨u, h1, hr, h2⟩
theorem RelM.oOwn (R : RelM w0 T Fz0 U h ρ Fz w) {id e : Nat} {t : Ty} {xs : List (el t)} {v : Value} (ho : h id = some (.own e t xs)) (hx : ACRep w ρ Fz (.o id) v) : ρ id = some v := by
  obtain ⟨u, h1, ⟨vs, hown, _⟩, h2⟩ := R.oRep ho hx
  have : gval u = u := by rcases hown.2 with ⟨rfl, hn⟩ | ⟨g, cap, cur, rfl, _⟩ <;> rfl
  rw [← h2, this]; exact h1
theorem RelM.peOwn (R : RelM w0 T Fz0 U h ρ Fz w) {id e : Nat} {t : Ty} {xs : List (el t)} {s off : Nat} {i : Int} {v : Value} (ho : h id = some (.own e t xs)) (hx : ACRep w ρ Fz (.pe id s i off) v) :
    ∃ g n c, ρ id = some (.slice (some ⟨g, 0, none⟩) n c) ∧ v = .pointer (some ⟨g, i.toNat * s + off, none⟩) := by
  obtain ⟨g, n, c, ⟨u, h1, h3⟩, h2⟩ := (hx : ∃ g n c, (∃ u, ρ id = some u ∧ gval u = .slice (some ⟨g, 0, none⟩) n c) ∧ v = .pointer (some ⟨g, i.toNat * s + off, none⟩))
  obtain ⟨u', h1', vs, hown, _⟩ := R.objs id _ ho
  rw [h1] at h1'; cases h1'
  have : gval u = u := by rcases hown.2 with ⟨rfl, hn⟩ | ⟨g, cap, cur, rfl, _⟩ <;> rfl
  rw [this] at h3
  exact ⟨g, n, c, h3 ▸ h1, h2⟩
theorem oIntro {id : Nat} {v : Value} (h1 : ρ id = some v) (h2 : gval v = v) (h3 : v.oneCell' = true) : ACRep w ρ Fz (.o id) v := ⟨v, h1, h2, h3⟩
/-- A heap in which fewer things are. -/
theorem RelM.less (R : RelM w0 T Fz0 U h ρ Fz w) (hl : ∀ id o, h' id = some o → h id = some o) : RelM w0 T Fz0 U h' ρ Fz w :=
  ⟨R.env, R.frame, R.fz0, R.fzlt, R.fznew, R.dom, fun id o ho => R.objs id o (hl id o ho),
   fun id b ⟨o, v, h1, h2⟩ => R.mt id b ⟨o, v, hl id o h1, h2⟩, fun id id' b ⟨o, v, h1, h2⟩ ⟨o', v', h1', h2'⟩ => R.dis id id' b ⟨o, v, hl id o h1, h2⟩ ⟨o', v', hl id' o' h1', h2'⟩⟩
theorem RelM.weakU (R : RelM w0 T Fz0 U h ρ Fz w) (hu : ∀ i, U i → U' i) : RelM w0 T Fz0 U' h ρ Fz w :=
  ⟨R.env, R.frame, R.fz0, R.fzlt, R.fznew, fun id v e => ⟨hu _ (R.dom id v e).1, (R.dom id v e).2⟩, R.objs, R.mt, R.dis⟩
/-- A draw. -/
theorem RelM.drew (R : RelM w0 T Fz0 U h ρ Fz w) : RelM w0 T Fz0 U h ρ Fz w.drew :=
  ⟨R.env.drew, R.frame, R.fz0, R.fzlt, R.fznew, R.dom, fun id o ho => let ⟨v, e, hr⟩ := R.objs id o ho; ⟨v, e, ObjRep_mono (w := w) (w' := w.drew) ⟨fun _ _ h => .inl h, fun _ h => h, fun _ _ => rfl⟩ (fun _ _ _ => rfl) hr⟩, R.mt, R.dis⟩
theorem RelM.monoStep {row : Option Nat} (hg : w.grownBy w' row) (hr : ∀ b, row = some b → ¬ Fz b) (hf : ∀ b, Fz b → b < w.heap.size) : ∀ b, Fz b → w'.heap[b]? = w.heap[b]? :=
  fun b hb => hg.block b (hf b hb) (fun e => hr b e.symm hb)

/-- One object is written anew (or made): all others stay. 'row': the block that may have been written. The object's block behind it is that one, or a new one. Those named in 'gone' are no more. -/
theorem RelM.put (R : RelM w0 T Fz0 U h ρ Fz w) {row : Option Nat} (hg : w.grownBy w' row)
    (id1 : Nat) (o1 : Obj) (v1 : Value) (hmut : o1.wr = true) (hone : v1.oneCell' = true)
    (hrow : ∀ b, row = some b → ∃ id, Live h ρ id b ∧ (h' id = none ∨ id = id1))
    (hnm : ρ id1 = none ∨ ∃ v0, ρ id1 = some v0 ∧ SameN v0 (some v1))
    (hb1 : ∀ b, BlkOf v1 b → (w.heap.size ≤ b ∧ b < w'.heap.size) ∨ (∃ id, Live h ρ id b ∧ (h' id = none ∨ id = id1)))
    (hu : ∀ i, U i → U' i) (hu1 : U' id1)
    (h1 : h' id1 = some o1) (hold : ∀ id o, id ≠ id1 → h' id = some o → h id = some o)
    (hrep : ObjRep w' (fun i => if i = id1 then some v1 else ρ i) Fz v1 o1) :
    RelM w0 T Fz0 U' h' (fun i => if i = id1 then some v1 else ρ i) Fz w' ∧ Mono w ρ Fz w' (fun i => if i = id1 then some v1 else ρ i) Fz := by
  have hrowfz : ∀ b, row = some b → ¬ Fz b := fun b hb => by
    obtain ⟨id, hl, _⟩ := hrow b hb
    exact (R.mt id b hl).1
  have m : Mono w ρ Fz w' (fun i => if i = id1 then some v1 else ρ i) Fz := by
    refine ⟨fun id v e => ?_, fun _ hb => hb, RelM.monoStep hg hrowfz R.fzlt⟩
    by_cases hi : id = id1
    · subst hi
      simp only [if_true]
      rcases hnm with hn | ⟨v0, hn, hs⟩
      · rw [hn] at e; cases e
      · rw [hn] at e; cases e; exact hs
    · simp only [if_neg hi]; exact .inl e
  have henv : Below 0 w w' := ⟨hg.os, hg.tape, hg.output, hg.size, fun k hk => by omega⟩
  have hliveold : ∀ id b, id ≠ id1 → Live h' (fun i => if i = id1 then some v1 else ρ i) id b → Live h ρ id b := by
    intro id b hi ⟨o, v, e1, e2, e3, e4⟩
    simp only [if_neg hi] at e3
    exact ⟨o, v, hold id o hi e1, e2, e3, e4⟩
  have hlive1 : ∀ b, Live h' (fun i => if i = id1 then some v1 else ρ i) id1 b → BlkOf v1 b := by
    intro b ⟨o, v, e1, e2, e3, e4⟩
    simp only [if_true, Option.some.injEq] at e3
    subst e3; exact e4
  have hapart : ∀ id b, id ≠ id1 → Live h' (fun i => if i = id1 then some v1 else ρ i) id b → ¬ BlkOf v1 b := by
    intro id b hi hl e
    have hl0 := hliveold id b hi hl
    rcases hb1 b e with ⟨hge, _⟩ | ⟨id', hl', hid'⟩
    · have := (R.mt id b hl0).2.1; omega
    · have := R.dis id id' b hl0 hl'
      subst this
      rcases hid' with hn | hn
      · obtain ⟨o, v, e1, _⟩ := hl; rw [hn] at e1; cases e1
      · exact hi hn
  refine ⟨⟨R.env.trans henv, fun b hb hT => ?_, R.fz0, fun b hb => Nat.lt_of_lt_of_le (R.fzlt b hb) hg.size, R.fznew, fun id v e => ?_, fun id o ho => ?_, fun id b hl => ?_, fun id id' b hl hl' => ?_⟩, m⟩
  · have hlt : b < w.heap.size := Nat.lt_of_lt_of_le hb R.env.size
    rw [hg.block b hlt (fun e => ?_)]
    · exact R.frame b hb hT
    · obtain ⟨id, hl, _⟩ := hrow b e.symm
      rcases (R.mt id b hl).2.2 with h' | h'
      · exact hT h'
      · omega
  · by_cases hi : id = id1
    · subst hi; simp only [if_true, Option.some.injEq] at e; subst e; exact ⟨hu1, hone⟩
    · simp only [if_neg hi] at e; exact ⟨hu _ (R.dom id v e).1, (R.dom id v e).2⟩
  · by_cases hi : id = id1
    · subst hi
      rw [h1] at ho
      cases ho
      exact ⟨v1, by simp, hrep⟩
    · obtain ⟨v, e, hr⟩ := R.objs id o (hold id o hi ho)
      refine ⟨v, by simp only [if_neg hi]; exact e, ObjRep_mono m (fun b hm hb => ?_) hr⟩
      have hl0 : Live h ρ id b := ⟨o, v, hold id o hi ho, hm, e, hb⟩
      refine hg.block b (R.mt id b hl0).2.1 (fun hrw => ?_)
      obtain ⟨id', hl', hid'⟩ := hrow b hrw.symm
      have := R.dis id id' b hl0 hl'
      subst this
      rcases hid' with hn | hn
      · rw [hn] at ho; cases ho
      · exact hi hn
  · by_cases hi : id = id1
    · subst hi
      have hb := hlive1 b hl
      rcases hb1 b hb with ⟨hge, hlt⟩ | ⟨id', hl', _⟩
      · exact ⟨fun hf => by have := R.fzlt b hf; omega, hlt, .inr (by have := R.env.size; omega)⟩
      · have := R.mt id' b hl'
        exact ⟨this.1, Nat.lt_of_lt_of_le this.2.1 hg.size, this.2.2⟩
    · have := R.mt id b (hliveold id b hi hl)
      exact ⟨this.1, Nat.lt_of_lt_of_le this.2.1 hg.size, this.2.2⟩
  · by_cases hi : id = id1
    · by_cases hi' : id' = id1
      · rw [hi, hi']
      · subst hi; exact absurd (hlive1 b hl) (hapart id' b hi' hl')
    · by_cases hi' : id' = id1
      · subst hi'; exact absurd (hlive1 b hl') (hapart id b hi hl)
      · exact R.dis id id' b (hliveold id b hi hl) (hliveold id' b hi' hl')

/-- A row of one's own stays from now on: it is only read. -/
theorem own_KI {e : Nat} {t : Ty} {xs : List (el t)} {v : Value} {vs : List Value} (ho : w.ownsRow 0 e (sz t) v xs.length vs) (hr : Rows w Fz t xs vs) (hf : ∀ b, Fz b → Fz' b) (hb : ∀ b, blkV v = some b → Fz' b) : KI w Fz' (.sl e t) xs [v] := by
  rcases ho.2 with ⟨rfl, hn⟩ | ⟨g, cap, cur, rfl, hbg, hgg, hnc, hcm, hcs, htake⟩
  · exact ⟨none, 0, by rw [hn], by omega, fun i hi => by omega⟩
  · refine ⟨some ⟨g, 0, none⟩, cap, rfl, hnc, fun i hi => ⟨g, 0, _, rfl, hb g rfl, fun j u hj => ?_, KI_mono hf (fun _ _ => rfl) (hr.2 i hi)⟩⟩
    rw [List.getElem?_take] at hj
    split at hj
    · rename_i hlt
      rw [List.getElem?_drop] at hj
      have hlt2 : i * sz t + j < vs.length := by
        rcases Nat.lt_or_ge (i * sz t + j) vs.length with h | h
        · exact h
        · rw [List.getElem?_eq_none h] at hj; cases hj
      rw [ho.1] at hlt2
      rw [Nat.zero_add, ho.cellAt _ hlt2]
      exact hj
    · cases hj
theorem own_blk {e : Nat} {s n : Nat} {v : Value} {vs : List Value} (ho : w.ownsRow 0 e s v n vs) : blkV v = v.ownBlock := by
  rcases ho.2 with ⟨rfl, hn⟩ | ⟨g, cap, cur, rfl, _⟩ <;> rfl
theorem own_blks {e : Nat} {s n : Nat} {v : Value} {vs : List Value} (ho : w.ownsRow 0 e s v n vs) : blksV v = (blkV v).toList := by
  rcases ho.2 with ⟨rfl, hn⟩ | ⟨g, cap, cur, rfl, _⟩ <;> rfl
theorem own_blkOf {e : Nat} {s n : Nat} {v : Value} {vs : List Value} (ho : w.ownsRow 0 e s v n vs) {b : Nat} (h : BlkOf v b) : blkV v = some b := by
  rcases ho.2 with ⟨rfl, hn⟩ | ⟨g, cap, cur, rfl, _⟩ <;> exact h
theorem own_gval {e : Nat} {s n : Nat} {v : Value} {vs : List Value} (ho : w.ownsRow 0 e s v n vs) : gval v = v := by
  rcases ho.2 with ⟨rfl, hn⟩ | ⟨g, cap, cur, rfl, _⟩ <;> rfl
theorem own_one {e : Nat} {s n : Nat} {v : Value} {vs : List Value} (ho : w.ownsRow 0 e s v n vs) : v.oneCell' = true := by
  rcases ho.2 with ⟨rfl, hn⟩ | ⟨g, cap, cur, rfl, _⟩ <;> rfl
theorem DO_KI : ∀ {t : Ty} {x : el t} {cs : List Value} {bl : List Nat}, (∀ b ∈ bl, Fz b) → DO w t x cs bl → KI w Fz t x cs
  | .int _, _, _, _, _, h => h.1
  | .bool, _, _, _, _, h => h.1
  | .str, _, _, _, _, h => h.1
  | .unit, _, _, _, _, h => h.1
  | .wrap t, x, cs, bl, hb, h => DO_KI (t := t) hb h
  | .pair a b, x, cs, bl, hb, h => by
    obtain ⟨c1, c2, b1, b2, rfl, rfl, h1, h2⟩ := h
    exact ⟨c1, c2, rfl, DO_KI (fun b hm => hb b (List.mem_append_left _ hm)) h1, DO_KI (fun b hm => hb b (List.mem_append_right _ hm)) h2⟩
  | .sl e t, xs, cs, bl, hb, h => by
    obtain ⟨v, vs, bls, rfl, ho, hl, hn, hr, rfl⟩ := h
    refine own_KI (Fz := Fz) ho ⟨hl, fun i hi => DO_KI (fun b hm => hb b (List.mem_append_right _ ?_)) (hr i hi)⟩ (fun _ h => h) fun b hv => hb b (List.mem_append_left _ (by simp [hv]))
    rw [List.getD_eq_getElem?_getD, List.getElem?_eq_getElem (by rw [hn]; exact hi)] at hm
    exact List.mem_flatten.2 ⟨_, List.getElem_mem _, hm⟩
/-- A row of one's own, with what is in it or without. -/
def RowO (o : Option Obj) (e : Nat) (t : Ty) (xs : List (el t)) : Prop := o = some (.own e t xs) ∨ o = some (.dp e t xs)
theorem RowO.sub {h hr : Hp} (hsub : ∀ id ob, hr id = some ob → h id = some ob) {id e : Nat} {t : Ty} {xs : List (el t)} (ho : RowO (hr id) e t xs) : RowO (h id) e t xs := ho.imp (hsub id _) (hsub id _)
theorem RowO.fro {o : Option Obj} {e e' : Nat} {t t' : Ty} {xs : List (el t)} {xs' : List (el t')} (h : RowO o e t xs) (h' : RowO o e' t' xs') : Obj.fro e t xs = Obj.fro e' t' xs' := by
  rcases h with h | h <;> rw [h] at h' <;> rcases h' with h' | h' <;> cases h' <;> rfl
theorem RowO.wr {o : Obj} {e : Nat} {t : Ty} {xs : List (el t)} (h : RowO (some o) e t xs) : o.wr = true := by rcases h with h | h <;> cases h <;> rfl
theorem RowO.KI {ob : Option Obj} {e : Nat} {t : Ty} {xs : List (el t)} {v : Value} {o : Obj} (h : RowO (some o) e t xs) (hr : ObjRep w ρ Fz v o) (hf : ∀ b, Fz b → Fz' b) (hb : ∀ b, BlkOf v b → Fz' b) : KI w Fz' (.sl e t) xs [gval v] := by
  rcases h with h | h <;> cases h
  · obtain ⟨vs, ho, hrows⟩ := hr
    rw [own_gval ho]
    exact own_KI ho hrows hf fun b h => hb b (blkOf h)
  · obtain ⟨u, bl, rfl, hd, _⟩ := hr
    exact DO_KI (fun b hm => hb b (mem_blksV.1 (by rw [ghost_blks]; exact hm))) hd
/-- Two names share what they own anew; nothing is written. -/
theorem RelM.two (R : RelM w0 T Fz0 U h ρ Fz w) (i1 i2 : Nat) (hne : i1 ≠ i2) (o1 : Obj) (o2 : Option Obj) (v1 v2 : Value) (one1 : v1.oneCell' = true) (one2 : v2.oneCell' = true)
    (n1 : ∃ v0, ρ i1 = some v0 ∧ SameN v0 (some v1)) (n2 : ρ i2 = none ∨ ∃ v0, ρ i2 = some v0 ∧ SameN v0 (some v2))
    (hB : ∀ b, BlkOf v1 b ∨ (o2.isSome = true ∧ BlkOf v2 b) → ∃ k, (k = i1 ∨ k = i2) ∧ Live h ρ k b) (hD : o2.isSome = true → ∀ b, BlkOf v1 b → ¬ BlkOf v2 b)
    (hu : ∀ i, U i → U' i) (hu2 : U' i2) (e1 : h' i1 = some o1) (e2 : h' i2 = o2) (hold : ∀ k o, k ≠ i1 → k ≠ i2 → h' k = some o → h k = some o)
    (rep1 : ObjRep w (fun i => if i = i1 then some v1 else if i = i2 then some v2 else ρ i) Fz v1 o1) (rep2 : ∀ o, o2 = some o → ObjRep w (fun i => if i = i1 then some v1 else if i = i2 then some v2 else ρ i) Fz v2 o) :
    RelM w0 T Fz0 U' h' (fun i => if i = i1 then some v1 else if i = i2 then some v2 else ρ i) Fz w ∧ Mono w ρ Fz w (fun i => if i = i1 then some v1 else if i = i2 then some v2 else ρ i) Fz := by
  have m : Mono w ρ Fz w (fun i => if i = i1 then some v1 else if i = i2 then some v2 else ρ i) Fz := by
    refine ⟨fun id v e => ?_, fun _ hb => hb, fun _ _ => rfl⟩
    by_cases h1 : id = i1
    · subst h1
      obtain ⟨v0, hv, hs⟩ := n1
      rw [hv] at e; cases e
      simp only [if_true]; exact hs
    · by_cases h2 : id = i2
      · subst h2
        simp only [if_neg h1, if_true]
        rcases n2 with hn | ⟨v0, hv, hs⟩
        · rw [hn] at e; cases e
        · rw [hv] at e; cases e; exact hs
      · simp only [if_neg h1, if_neg h2]; exact .inl e
  have hL : ∀ id b, Live h' (fun i => if i = i1 then some v1 else if i = i2 then some v2 else ρ i) id b → (id = i1 ∧ BlkOf v1 b) ∨ (id = i2 ∧ o2.isSome = true ∧ BlkOf v2 b) ∨ (id ≠ i1 ∧ id ≠ i2 ∧ Live h ρ id b) := by
    intro id b ⟨o, v, a1, a2, a3, a4⟩
    by_cases h1 : id = i1
    · subst h1
      simp only [if_true, Option.some.injEq] at a3
      subst a3; exact .inl ⟨rfl, a4⟩
    · by_cases h2 : id = i2
      · subst h2
        simp only [if_neg h1, if_true, Option.some.injEq] at a3
        subst a3; rw [e2] at a1; exact .inr (.inl ⟨rfl, by rw [a1]; rfl, a4⟩)
      · simp only [if_neg h1, if_neg h2] at a3
        exact .inr (.inr ⟨h1, h2, o, v, hold id o h1 h2 a1, a2, a3, a4⟩)
  have hLk : ∀ id b, Live h' (fun i => if i = i1 then some v1 else if i = i2 then some v2 else ρ i) id b → ∃ k, Live h ρ k b ∧ ((k = i1 ∨ k = i2) ∨ k = id) := by
    intro id b hl
    rcases hL id b hl with ⟨_, hb⟩ | ⟨_, hs, hb⟩ | ⟨_, _, hb⟩
    · obtain ⟨k, hk, hl⟩ := hB b (.inl hb); exact ⟨k, hl, .inl hk⟩
    · obtain ⟨k, hk, hl⟩ := hB b (.inr ⟨hs, hb⟩); exact ⟨k, hl, .inl hk⟩
    · exact ⟨id, hb, .inr rfl⟩
  refine ⟨⟨R.env, R.frame, R.fz0, R.fzlt, R.fznew, fun id v e => ?_, fun id o ho => ?_, fun id b hl => ?_, fun id id' b hl hl' => ?_⟩, m⟩
  · by_cases h1 : id = i1
    · subst h1
      simp only [if_true, Option.some.injEq] at e
      subst e
      obtain ⟨v0, hv, _⟩ := n1
      exact ⟨hu _ (R.dom _ _ hv).1, one1⟩
    · by_cases h2 : id = i2
      · subst h2
        simp only [if_neg h1, if_true, Option.some.injEq] at e
        subst e; exact ⟨hu2, one2⟩
      · simp only [if_neg h1, if_neg h2] at e
        exact ⟨hu _ (R.dom id v e).1, (R.dom id v e).2⟩
  · by_cases h1 : id = i1
    · subst h1
      rw [e1] at ho; cases ho
      exact ⟨v1, by simp, rep1⟩
    · by_cases h2 : id = i2
      · subst h2
        rw [e2] at ho
        exact ⟨v2, by simp [h1], rep2 o ho⟩
      · obtain ⟨v, e, hr⟩ := R.objs id o (hold id o h1 h2 ho)
        exact ⟨v, by simp only [if_neg h1, if_neg h2]; exact e, ObjRep_mono m (fun _ _ _ => rfl) hr⟩
  · obtain ⟨k, hk, _⟩ := hLk id b hl
    exact R.mt k b hk
  · rcases hL id b hl with ⟨rfl, hb⟩ | ⟨rfl, hs, hb⟩ | ⟨h1, h2, hb⟩
    · rcases hL id' b hl' with ⟨rfl, hb'⟩ | ⟨rfl, hs', hb'⟩ | ⟨h1', h2', hb'⟩
      · rfl
      · exact absurd hb' (hD hs' b hb)
      · obtain ⟨k, hk, hlk⟩ := hB b (.inl hb)
        have := R.dis _ _ b hlk hb'
        subst this
        rcases hk with hk | hk
        · exact absurd hk h1'
        · exact absurd hk h2'
    · rcases hL id' b hl' with ⟨rfl, hb'⟩ | ⟨rfl, hs', hb'⟩ | ⟨h1', h2', hb'⟩
      · exact absurd hb (hD hs b hb')
      · rfl
      · obtain ⟨k, hk, hlk⟩ := hB b (.inr ⟨hs, hb⟩)
        have := R.dis _ _ b hlk hb'
        subst this
        rcases hk with hk | hk
        · exact absurd hk h1'
        · exact absurd hk h2'
    · rcases hL id' b hl' with ⟨rfl, hb'⟩ | ⟨rfl, hs', hb'⟩ | ⟨h1', h2', hb'⟩
      · obtain ⟨k, hk, hlk⟩ := hB b (.inl hb')
        have := R.dis _ _ b hlk hb
        subst this
        rcases hk with hk | hk
        · exact absurd hk h1
        · exact absurd hk h2
      · obtain ⟨k, hk, hlk⟩ := hB b (.inr ⟨hs', hb'⟩)
        have := R.dis _ _ b hlk hb
        subst this
        rcases hk with hk | hk
        · exact absurd hk h1
        · exact absurd hk h2
      · exact R.dis id id' b hb hb'
/-- What is frozen: rows of one's own, from now on read. 'ids': their names. -/
theorem RelM.freeze (R : RelM w0 T Fz0 U h ρ Fz w) (ids : List Nat) (h' : Hp)
    (hsame : ∀ id, id ∉ ids → h' id = h id) (hfro : ∀ id, id ∈ ids → h' id = h id ∨ ∃ e t xs, RowO (h id) e t xs ∧ h' id = some (.fro e t xs)) :
    ∃ Fz', RelM w0 T Fz0 U h' ρ Fz' w ∧ Mono w ρ Fz w ρ Fz' ∧ (∀ b, Fz' b → Fz b ∨ ∃ id, id ∈ ids ∧ Live h ρ id b) ∧ (∀ id b, (∃ e t xs, RowO (h id) e t xs ∧ h' id = some (.fro e t xs)) → Live h ρ id b → Fz' b) := by
  let fr := fun id => ∃ e t xs, RowO (h id) e t xs ∧ h' id = some (.fro e t xs)
  let Fz' := fun b => Fz b ∨ ∃ id, fr id ∧ Live h ρ id b
  have hin : ∀ id, fr id → id ∈ ids := fun id ⟨e, t, xs, h1, h2⟩ => Classical.byContradiction fun hn => by rw [hsame id hn] at h2; rw [h2] at h1; rcases h1 with h1 | h1 <;> cases h1
  have m : Mono w ρ Fz w ρ Fz' := ⟨fun _ _ e => .inl e, fun _ e => .inl e, fun _ _ => rfl⟩
  have hnf : ∀ id o, h' id = some o → o.wr = true → h id = some o ∧ ¬ fr id := by
    intro id o ho hm
    by_cases hi : id ∈ ids
    · rcases hfro id hi with he | ⟨e, t, xs, h1, h2⟩
      · exact ⟨he ▸ ho, fun ⟨e, t, xs, h1, h2⟩ => by rw [h2] at ho; cases ho; simp [Obj.wr] at hm⟩
      · rw [h2] at ho; cases ho; simp [Obj.wr] at hm
    · exact ⟨(hsame id hi) ▸ ho, fun hf => hi (hin id hf)⟩
  have hlive : ∀ id b, Live h' ρ id b → Live h ρ id b ∧ ¬ fr id := fun id b ⟨o, v, e1, e2, e3⟩ => ⟨⟨o, v, (hnf id o e1 e2).1, e2, e3⟩, (hnf id o e1 e2).2⟩
  refine ⟨Fz', ⟨R.env, R.frame, fun b hb => .inl (R.fz0 b hb), fun b hb => ?_, fun b hb => ?_, R.dom, fun id o ho => ?_, fun id b hl => ?_, fun id id' b hl hl' => R.dis id id' b (hlive id b hl).1 (hlive id' b hl').1⟩, m, fun b hb => hb.imp (fun h => h) (fun ⟨id, hf, hl⟩ => ⟨id, hin id hf, hl⟩), fun id b hf hl => .inr ⟨id, hf, hl⟩⟩
  · rcases hb with hb | ⟨id, _, hl⟩
    · exact R.fzlt b hb
    · exact (R.mt id b hl).2.1
  · rcases hb with hb | ⟨id, _, hl⟩
    · exact R.fznew b hb
    · exact .inr (R.mt id b hl).2.2
  · have keep : h id = some o → ∃ v, ρ id = some v ∧ ObjRep w ρ Fz' v o := fun ho => by
      obtain ⟨v, e, hr⟩ := R.objs id o ho
      exact ⟨v, e, ObjRep_mono m (fun _ _ _ => rfl) hr⟩
    by_cases hi : id ∈ ids
    · rcases hfro id hi with he | ⟨e, t, xs, h1, h2⟩
      · exact keep (he ▸ ho)
      · rw [h2] at ho; cases ho
        cases hob : h id with
        | none => rw [hob] at h1; rcases h1 with h1 | h1 <;> cases h1
        | some ob =>
          obtain ⟨v, ev, hrep⟩ := R.objs id _ hob
          have h1' := h1
          rw [hob] at h1'
          exact ⟨v, ev, h1'.KI (ob := none) hrep m.fz fun b hb => .inr ⟨id, ⟨e, t, xs, h1, h2⟩, ⟨ob, v, hob, h1'.wr, ev, hb⟩⟩⟩
    · exact keep ((hsame id hi) ▸ ho)
  · obtain ⟨hl0, hnfr⟩ := hlive id b hl
    have := R.mt id b hl0
    refine ⟨fun hb => ?_, this.2⟩
    rcases hb with hb | ⟨id', hf', hl'⟩
    · exact this.1 hb
    · have := R.dis id id' b hl0 hl'; subst this; exact hnfr hf'
end
end Go.Sx
