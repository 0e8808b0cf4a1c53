/- Loops by rounds: small laws on numbers and lists for the printed functions. Any program. -/
import Derived.Test.YtbgibmngijomfaaWMore
namespace Go.Proofs.YtbgibmngijomfaaE
open Go Go.RowKit Go.Proofs.YtbgibmngijomfaaW.PrintWords

theorem w64 {x : Int} (h0 : -9223372036854775808 ≤ x) (h1 : x ≤ 9223372036854775807) : wrap64 x = x := by unfold wrap64; omega
theorem w64n (i : Nat) (h : i < 9223372036854775807) : wrap64 ((i : Int) + 1) = ((i + 1 : Nat) : Int) := by unfold wrap64; omega
theorem wf_i64 {x : Int} (h : (Lit.int .i64 x).wf = true) : -9223372036854775808 ≤ x ∧ x ≤ 9223372036854775807 := by
  simp [Lit.wf, IntKind.min, IntKind.max, IntKind.signed, IntKind.bits] at h
  omega

/-- From the end down: a loop that counts up. -/
theorem loop_up {α : Type} (L : Nat → Nat → Option α) (n : Nat) (R : Nat → α) (hend : Ev (fun k => L k n) (R n)) (hstep : ∀ i, i < n → Ev (fun k => L k (i + 1)) (R (i + 1)) → Ev (fun k => L k i) (R i)) :
    ∀ i, i ≤ n → Ev (fun k => L k i) (R i) := by
  have key : ∀ d i, i + d = n → Ev (fun k => L k i) (R i) := by
    intro d
    induction d with
    | zero => intro i hi; obtain rfl : i = n := by omega
              exact hend
    | succ d ih => intro i hi; exact hstep i (by omega) (ih (i + 1) (by omega))
  exact fun i hi => key (n - i) i (by omega)

theorem ev_fun {α : Type} {g : Nat → Option α} {r r' : α} (h : Ev g r) (e : r = r') : Ev g r' := e ▸ h
theorem ev_inj {α : Type} {g : Nat → Option α} {r r' : α} (h : Ev g r) (h' : Ev g r') : r = r' := by
  obtain ⟨K, h⟩ := h
  obtain ⟨K', h'⟩ := h'
  have h1 := h (max K K') (by omega)
  have h2 := h' (max K K') (by omega)
  rw [h1] at h2
  exact Option.some.inj h2
theorem ev_const {α : Type} {o : Option α} {r : α} (h : o = some r) : Ev (fun _ => o) r := ⟨0, fun _ _ => h⟩
/-- A part that takes no rounds. -/
theorem ev_bindc {α β : Type} {o : Option α} {f : Nat → α → Option β} {a : α} {r : β} (h : o = some a) (k : Ev (fun n => f n a) r) : Ev (fun n => o.bind (f n)) r := by
  subst h
  exact k
theorem ev_ite_pos {α : Type} {c : Prop} [Decidable c] {g f : Nat → Option α} {r : α} (hc : c) (h : Ev g r) : Ev (fun k => if c then g k else f k) r := by
  simp only [if_pos hc]; exact h
theorem ev_ite_neg {α : Type} {c : Prop} [Decidable c] {g f : Nat → Option α} {r : α} (hc : ¬ c) (h : Ev f r) : Ev (fun k => if c then g k else f k) r := by
  simp only [if_neg hc]; exact h

/-- What a copying loop has after i rounds. -/
def cpart {α : Type} (l : List α) (z : α) (i : Nat) : List α := l.take i ++ List.replicate (l.length - i) z
theorem cpart_zero {α : Type} (l : List α) (z : α) : cpart l z 0 = List.replicate l.length z := by simp [cpart]
theorem cpart_end {α : Type} (l : List α) (z : α) : cpart l z l.length = l := by simp [cpart]
theorem cpart_length {α : Type} (l : List α) (z : α) (i : Nat) : i ≤ l.length → (cpart l z i).length = l.length := by intro h; simp [cpart]; omega
theorem cpart_set {α : Type} (l : List α) (z d : α) (i : Nat) (h : i < l.length) : (cpart l z i).set i (l.getD i d) = cpart l z (i + 1) := by
  have e1 : l.getD i d = l[i] := by rw [List.getD_eq_getElem?_getD, List.getElem?_eq_getElem h]; rfl
  unfold cpart
  rw [e1, List.set_append_right _ _ (by rw [List.length_take]; exact Nat.min_le_left _ _), List.take_succ_eq_append_getElem h, List.append_assoc]
  congr 1
  have : min i l.length = i := by omega
  obtain ⟨m, hm⟩ : ∃ m, l.length - i = m + 1 := ⟨l.length - i - 1, by omega⟩
  have hm2 : l.length - (i + 1) = m := by omega
  rw [hm, hm2, List.length_take, this, Nat.sub_self, List.replicate_succ]
  rfl

theorem rd_nat (xs : List Int) (i : Nat) : rd xs (i : Int) = xs.getD i 0 := rfl
theorem getD_drop {α : Type} (l : List α) (d : α) (i : Nat) (h : i < l.length) : l.drop i = l.getD i d :: l.drop (i + 1) := by
  rw [List.drop_eq_getElem_cons h, List.getD_eq_getElem?_getD, List.getElem?_eq_getElem h]
  rfl
theorem getD_mem {α : Type} (l : List α) (d : α) (i : Nat) (h : i < l.length) : l.getD i d ∈ l := by
  rw [List.getD_eq_getElem?_getD, List.getElem?_eq_getElem h]
  exact List.getElem_mem h
/-! ### copying, comparing, measuring: what the laws' own helpers do -/
theorem copy_loop {α β : Type} (L : Nat → List β → Nat → Option (List β)) (l : List α) (d : α) (z : β) (c : α → β) (hend : ∀ k x3, L (k + 1) x3 l.length = some x3)
    (hstep : ∀ i, i < l.length → ∃ g : Nat → Option β, Ev g (c (l.getD i d)) ∧ ∀ k x3, x3.length = l.length → L (k + 1) x3 i = (g k).bind fun t => L k (x3.set i t) (i + 1)) :
    Ev (fun k => L k (List.replicate l.length z) 0) (l.map c) := by
  have e0 : List.replicate l.length z = cpart (l.map c) z 0 := by rw [cpart_zero, List.length_map]
  rw [e0]
  refine loop_up (fun k i => L k (cpart (l.map c) z i) i) l.length (fun _ => l.map c) ?_ ?_ 0 (by omega)
  · refine Ev.step (f := fun _ => some (cpart (l.map c) z l.length)) (fun k => hend k _) (ev_fun (Ev.now _) ?_)
    have := cpart_end (l.map c) z
    rwa [List.length_map] at this
  · intro i hi h1
    obtain ⟨g, hg, hs⟩ := hstep i hi
    refine Ev.step (f := fun k => (g k).bind fun t => L k ((cpart (l.map c) z i).set i t) (i + 1)) (fun k => hs k _ (by rw [cpart_length _ _ _ (by simp; omega), List.length_map])) (Ev.bind hg ?_)
    have e1 : c (l.getD i d) = (l.map c).getD i (c d) := by
      rw [List.getD_eq_getElem?_getD, List.getD_eq_getElem?_getD, List.getElem?_map, List.getElem?_eq_getElem hi]; rfl
    rw [e1, cpart_set _ _ _ _ (by simpa using hi)]
    exact h1
theorem eq_ite {c p : Prop} [Decidable c] {g : Nat → Option Bool} (h : c → ∃ r, Ev g r ∧ (r = true ↔ p)) : ∃ r, Ev (fun k => if c then g k else some false) r ∧ (r = true ↔ c ∧ p) := by
  by_cases hc : c
  · obtain ⟨r, h1, h2⟩ := h hc
    exact ⟨r, ev_ite_pos hc h1, by rw [h2]; exact ⟨fun q => ⟨hc, q⟩, fun q => q.2⟩⟩
  · exact ⟨false, ev_ite_neg hc (Ev.now _), by simp [hc]⟩
theorem eq_bind {c p : Prop} {s g : Nat → Option Bool} (hs : ∃ r, Ev s r ∧ (r = true ↔ c)) (h : c → ∃ r, Ev g r ∧ (r = true ↔ p)) :
    ∃ r, Ev (fun k => (s k).bind fun t => if t = true then g k else some false) r ∧ (r = true ↔ c ∧ p) := by
  obtain ⟨t, h1, h2⟩ := hs
  by_cases hc : c
  · obtain ⟨r, h3, h4⟩ := h hc
    exact ⟨r, Ev.bind h1 (ev_ite_pos (h2.2 hc) h3), by rw [h4]; exact ⟨fun q => ⟨hc, q⟩, fun q => q.2⟩⟩
  · exact ⟨false, Ev.bind h1 (ev_ite_neg (fun e => hc (h2.1 e)) (Ev.now _)), by simp [hc]⟩
theorem eq_done : ∃ r, Ev (fun _ => some true) r ∧ (r = true ↔ True) := ⟨true, Ev.now _, by simp⟩
theorem eq_iff {p q : Prop} {g : Nat → Option Bool} (h : ∃ r, Ev g r ∧ (r = true ↔ p)) (e : p ↔ q) : ∃ r, Ev g r ∧ (r = true ↔ q) := by
  obtain ⟨r, h1, h2⟩ := h
  exact ⟨r, h1, h2.trans e⟩
theorem eq_loop {α : Type} (L : Nat → Nat → Option Bool) (a b : List α) (d : α) (hl : a.length = b.length) (hend : ∀ k, L (k + 1) a.length = some true)
    (hstep : ∀ i, i < a.length → ∃ g : Nat → Option Bool, (∃ r, Ev g r ∧ (r = true ↔ a.getD i d = b.getD i d)) ∧ ∀ k, L (k + 1) i = (g k).bind fun t => if t = true then L k (i + 1) else some false) :
    ∃ r, Ev (fun k => L k 0) r ∧ (r = true ↔ a = b) := by
  have key : ∀ m i, i + m = a.length → ∃ r, Ev (fun k => L k i) r ∧ (r = true ↔ a.drop i = b.drop i) := by
    intro m
    induction m with
    | zero =>
      intro i hi
      refine ⟨true, Ev.step (f := fun _ => some true) (fun k => by obtain rfl : i = a.length := by omega
                                                                   exact hend k) (Ev.now _), ?_⟩
      rw [List.drop_of_length_le (by omega), List.drop_of_length_le (by omega)]
      simp
    | succ m ih =>
      intro i hi
      obtain ⟨g, hg, hs⟩ := hstep i (by omega)
      obtain ⟨r, h1, h2⟩ := eq_bind hg (fun _ => ih (i + 1) (by omega))
      refine ⟨r, Ev.step hs h1, ?_⟩
      rw [h2, getD_drop a d i (by omega), getD_drop b d i (by omega), List.cons.injEq]
  simpa using key a.length 0 (by omega)
theorem sz_bind {s : Nat → Option Int} {g : Nat → Int → Option Int} {p q : Prop} (hs : ∃ r, Ev s r ∧ r ≤ 1048576 ∧ (0 ≤ r → p)) (h : ∀ r, 0 ≤ r → r ≤ 1048576 → ∃ r', Ev (fun k => g k r) r' ∧ r' ≤ 1048576 ∧ (0 ≤ r' → q)) :
    ∃ r, Ev (fun k => (s k).bind fun t => if t < 0 then some (-1) else g k t) r ∧ r ≤ 1048576 ∧ (0 ≤ r → p ∧ q) := by
  obtain ⟨r, h1, h2, h3⟩ := hs
  by_cases hr : r < 0
  · exact ⟨-1, Ev.bind h1 (ev_ite_pos hr (Ev.now _)), by omega, by omega⟩
  · obtain ⟨r', h4, h5, h6⟩ := h r (by omega) h2
    exact ⟨r', Ev.bind h1 (ev_ite_neg hr h4), h5, fun h0 => ⟨h3 (by omega), h6 h0⟩⟩
theorem sz_done {r : Int} (h : r ≤ 1048576) : ∃ r', Ev (fun _ => some r) r' ∧ r' ≤ 1048576 ∧ (0 ≤ r' → True) := ⟨r, Ev.now _, h, fun _ => trivial⟩
theorem sz_imp {g : Nat → Option Int} {p q : Prop} (h : ∃ r, Ev g r ∧ r ≤ 1048576 ∧ (0 ≤ r → p)) (e : p → q) : ∃ r, Ev g r ∧ r ≤ 1048576 ∧ (0 ≤ r → q) := by
  obtain ⟨r, h1, h2, h3⟩ := h
  exact ⟨r, h1, h2, fun h0 => e (h3 h0)⟩
theorem sz_wrap {left : Int} {n : Nat} (h0 : 0 ≤ left) (h1 : left ≤ 1048576) (hl : n ≤ maxLen) : wrap64 (left - (n : Int)) = left - n := by unfold maxLen at hl; unfold wrap64; omega
/-- A list of what has no lists inside. -/
theorem sz_flat {n : Nat} {left : Int} (h0 : 0 ≤ left) (h1 : left ≤ 1048576) (hl : n ≤ maxLen) :
    ∃ r, Ev (fun _ => if wrap64 (left - (n : Int)) < 0 then some (-1) else some (wrap64 (left - (n : Int)))) r ∧ r ≤ 1048576 ∧ (0 ≤ r → n ≤ 1048576) := by
  rw [sz_wrap h0 h1 hl]
  by_cases hn : left - (n : Int) < 0
  · exact ⟨-1, ev_ite_pos hn (Ev.now _), by omega, by omega⟩
  · exact ⟨left - n, ev_ite_neg hn (Ev.now _), by omega, by omega⟩
theorem sz_loop {α : Type} (L : Nat → Int → Nat → Option Int) (l : List α) (d : α) (p : α → Prop) (left : Int) (h0 : 0 ≤ left) (h1 : left ≤ 1048576) (hl : l.length ≤ maxLen) (hend : ∀ k c, L (k + 1) c l.length = some c)
    (hstep : ∀ i, i < l.length → i < 9223372036854775807 → ∀ c, 0 ≤ c → c ≤ 1048576 → ∃ g : Nat → Option Int, (∃ r, Ev g r ∧ r ≤ 1048576 ∧ (0 ≤ r → p (l.getD i d))) ∧ ∀ k, L (k + 1) c i = (g k).bind fun t => if t < 0 then some (-1) else L k t (i + 1)) :
    ∃ r, Ev (fun k => if wrap64 (left - (l.length : Int)) < 0 then some (-1) else L k (wrap64 (left - (l.length : Int))) 0) r ∧ r ≤ 1048576 ∧ (0 ≤ r → l.length ≤ 1048576 ∧ ∀ x ∈ l, p x) := by
  rw [sz_wrap h0 h1 hl]
  by_cases hn : left - (l.length : Int) < 0
  · exact ⟨-1, ev_ite_pos hn (Ev.now _), by omega, by omega⟩
  have key : ∀ m i (c : Int), i + m = l.length → 0 ≤ c → c ≤ 1048576 → ∃ r, Ev (fun k => L k c i) r ∧ r ≤ 1048576 ∧ (0 ≤ r → ∀ x ∈ l.drop i, p x) := by
    intro m
    induction m with
    | zero =>
      intro i c hi hc0 hc1
      refine ⟨c, Ev.step (f := fun _ => some c) (fun k => by obtain rfl : i = l.length := by omega
                                                             exact hend k c) (Ev.now _), hc1, fun _ x hx => ?_⟩
      rw [List.drop_of_length_le (by omega)] at hx
      simp at hx
    | succ m ih =>
      intro i c hi hc0 hc1
      obtain ⟨g, hg, hs⟩ := hstep i (by omega) (by unfold maxLen at hl; omega) c hc0 hc1
      obtain ⟨r, h2, h3, h4⟩ := sz_bind (g := fun k t => L k t (i + 1)) hg (fun r hr0 hr1 => ih (i + 1) r (by omega) hr0 hr1)
      refine ⟨r, Ev.step hs h2, h3, fun h0 x hx => ?_⟩
      rw [getD_drop l d i (by omega)] at hx
      rcases List.mem_cons.1 hx with rfl | hx
      · exact (h4 h0).1
      · exact (h4 h0).2 x hx
  obtain ⟨r, h2, h3, h4⟩ := key l.length 0 (left - l.length) (by omega) (by omega) (by omega)
  exact ⟨r, ev_ite_neg hn h2, h3, fun h0 => ⟨by omega, by simpa using h4 h0⟩⟩
/-- A loop that asks each one: do all? -/
theorem all_loop {α : Type} (L : Nat → Nat → Option Bool) (l : List α) (d : α) (p : α → Bool) (hend : ∀ k, L (k + 1) l.length = some true)
    (hstep : ∀ i, i < l.length → ∃ g : Nat → Option Bool, Ev g (p (l.getD i d)) ∧ ∀ k, L (k + 1) i = (g k).bind fun t => if t = true then L k (i + 1) else some false) :
    Ev (fun k => L k 0) (l.all p) := by
  refine ev_fun (loop_up L l.length (fun i => (l.drop i).all p) ?_ ?_ 0 (by omega)) (by simp)
  · exact Ev.step (f := fun _ => some true) hend (ev_fun (Ev.now _) (by simp))
  · intro i hi h1
    obtain ⟨g, hg, hs⟩ := hstep i hi
    refine Ev.step hs (Ev.bind hg ?_)
    rw [getD_drop l d i hi, List.all_cons]
    cases hp : p (l.getD i d) with
    | true => exact ev_ite_pos rfl (ev_fun h1 (by simp))
    | false => exact ev_ite_neg (by decide) (ev_fun (Ev.now _) (by simp))
/-- The same, with its place told: what is asked of one may ask of the one ahead. -/
theorem all_at {α : Type} (L : Nat → Nat → Option Bool) (l : List α) (p : Nat → Bool) (hend : ∀ k, L (k + 1) l.length = some true)
    (hstep : ∀ i, i < l.length → ∃ g : Nat → Option Bool, Ev g (p i) ∧ ∀ k, L (k + 1) i = (g k).bind fun t => if t = true then L k (i + 1) else some false) :
    Ev (fun k => L k 0) ((List.range l.length).all p) := by
  have e : List.range' 0 l.length = List.range l.length := (List.range_eq_range' ..).symm
  refine ev_fun (loop_up L l.length (fun i => (List.range' i (l.length - i)).all p) ?_ ?_ 0 (by omega)) (by rw [Nat.sub_zero, e])
  · exact Ev.step (f := fun _ => some true) hend (ev_fun (Ev.now _) (by simp))
  · intro i hi h1
    obtain ⟨g, hg, hs⟩ := hstep i hi
    refine Ev.step hs (Ev.bind hg ?_)
    have e2 : l.length - i = (l.length - (i + 1)) + 1 := by omega
    rw [e2, List.range'_succ, List.all_cons]
    cases hp : p i with
    | true => exact ev_ite_pos rfl (ev_fun h1 (by simp))
    | false => exact ev_ite_neg (by decide) (ev_fun (Ev.now _) (by simp))
theorem then_true {α : Type} {a b : α} : (if (true : Bool) = true then a else b) = a := if_pos rfl

end Go.Proofs.YtbgibmngijomfaaE
