/- Plain laws: what is so from some number of rounds on; loops that count up. Any program. -/
import Derived.KernelRfl
import Derived.RowKit
set_option linter.unusedVariables false
namespace Go.Pl
open Go

/-- From some number of rounds on. -/
def Ev {α : Type} (g : Nat → Option α) (r : α) : Prop := ∃ K, ∀ k, K ≤ k → g k = some r
/-- The same, where a loop's rounds are counted beside. -/
def EvL {α : Type} (L : Nat → Nat → Option α) (r : α) : Prop := ∃ K, ∀ k, K ≤ k → ∀ j, K ≤ j → L k j = some r
section
variable {α β : Type} {r r' : α}
theorem Ev.now (r : α) : Ev (fun _ => some r) r := ⟨0, fun _ _ => rfl⟩
theorem Ev.step {g f : Nat → Option α} (h : ∀ k, g (k + 1) = f k) (hf : Ev f r) : Ev g r := by
  obtain ⟨K, hK⟩ := hf
  refine ⟨K + 1, fun k hk => ?_⟩
  obtain ⟨m, rfl⟩ : ∃ m, k = m + 1 := ⟨k - 1, by omega⟩
  rw [h m]; exact hK m (by omega)
theorem Ev.congr {g f : Nat → Option α} (h : ∀ k, g k = f k) (hf : Ev f r) : Ev g r := by
  obtain ⟨K, hK⟩ := hf
  exact ⟨K, fun k hk => by rw [h k]; exact hK k hk⟩
theorem Ev.bind {g : Nat → Option β} {f : Nat → β → Option α} {b : β} (hg : Ev g b) (hf : Ev (fun k => f k b) r) : Ev (fun k => (g k).bind (f k)) r := by
  obtain ⟨K, hK⟩ := hg
  obtain ⟨K', hK'⟩ := hf
  exact ⟨max K K', fun k hk => by show (g k).bind (f k) = some r; rw [hK k (by omega)]; exact hK' k (by omega)⟩
theorem Ev.cond {g f : Nat → Option α} {b : Bool} (h1 : b = true → Ev g r) (h2 : b = false → Ev f r) : Ev (fun k => cond b (g k) (f k)) r := by
  cases b with
  | true => exact h1 rfl
  | false => exact h2 rfl
theorem Ev.to {g : Nat → Option α} (h : Ev g r) (e : r = r') : Ev g r' := e ▸ h
theorem Ev.ex {g : Nat → Option α} (h : Ev g r) : ∃ k, g k = some r := by
  obtain ⟨K, hK⟩ := h
  exact ⟨K, hK K (Nat.le_refl _)⟩
theorem Ev.inj {g : Nat → Option α} (h : Ev g r) (h' : Ev g r') : r = r' := by
  obtain ⟨K, h⟩ := h
  obtain ⟨K', h'⟩ := h'
  have h1 := h (max K K') (by omega)
  have h2 := h' (max K K') (by omega)
  rw [h1] at h2
  exact Option.some.inj h2

theorem EvL.now (r : α) : EvL (fun _ _ => some r) r := ⟨0, fun _ _ _ _ => rfl⟩
theorem EvL.step {L M : Nat → Nat → Option α} (h : ∀ k j, L k (j + 1) = M k j) (hM : EvL M r) : EvL L r := by
  obtain ⟨K, hK⟩ := hM
  refine ⟨K + 1, fun k hk j hj => ?_⟩
  obtain ⟨m, rfl⟩ : ∃ m, j = m + 1 := ⟨j - 1, by omega⟩
  rw [h k m]; exact hK k (by omega) m (by omega)
theorem EvL.bind {g : Nat → Option β} {M : Nat → Nat → β → Option α} {b : β} (hg : Ev g b) (hM : EvL (fun k j => M k j b) r) : EvL (fun k j => (g k).bind (M k j)) r := by
  obtain ⟨K, hK⟩ := hg
  obtain ⟨K', hK'⟩ := hM
  exact ⟨max K K', fun k hk j hj => by show (g k).bind (M k j) = some r; rw [hK k (by omega)]; exact hK' k (by omega) j (by omega)⟩
theorem EvL.cond {g f : Nat → Nat → Option α} {b : Bool} (h1 : b = true → EvL g r) (h2 : b = false → EvL f r) : EvL (fun k j => cond b (g k j) (f k j)) r := by
  cases b with
  | true => exact h1 rfl
  | false => exact h2 rfl
theorem EvL.to {L : Nat → Nat → Option α} (h : EvL L r) (e : r = r') : EvL L r' := e ▸ h
theorem EvL.congr {L M : Nat → Nat → Option α} (h : ∀ k j, L k j = M k j) (hM : EvL M r) : EvL L r := by
  obtain ⟨K, hK⟩ := hM
  exact ⟨K, fun k hk j hj => by rw [h k j]; exact hK k hk j hj⟩
theorem EvL.ev {L : Nat → Nat → Option α} (h : EvL L r) : Ev (fun k => L k k) r := by
  obtain ⟨K, hK⟩ := h
  exact ⟨K, fun k hk => hK k hk k hk⟩
theorem Ev.L {g : Nat → Option α} (h : Ev g r) : EvL (fun k _ => g k) r := by
  obtain ⟨K, hK⟩ := h
  exact ⟨K, fun k hk _ _ => hK k hk⟩
end

/-! ### numbers -/
theorem w64 {x : Int} (h0 : -9223372036854775808 ≤ x) (h1 : x ≤ 9223372036854775807) : IntKind.i64.wrap x = x := by
  have h : IntKind.i64.wrap x = if x % 18446744073709551616 ≥ 9223372036854775808 then x % 18446744073709551616 - 18446744073709551616 else x % 18446744073709551616 := by
    unfold IntKind.wrap
    simp [IntKind.signed, IntKind.bits]
  rw [h]
  split <;> omega
theorem w64n (i : Nat) (h : i < 9223372036854775807) : IntKind.i64.wrap ((i : Int) + 1) = ((i + 1 : Nat) : Int) := by rw [w64 (by omega) (by omega)]; rfl
theorem wf_i64 {x : Int} (h : (Lit.int .i64 x).wf = true) : -9223372036854775808 ≤ x ∧ x ≤ 9223372036854775807 := by
  simp [Lit.wf, IntKind.min, IntKind.max, IntKind.signed, IntKind.bits] at h
  omega

/-! ### lists by place -/
section
variable {α β : Type}
theorem getD_drop (l : List α) (d : α) (i : Nat) (h : i < l.length) : l.drop i = l.getD i d :: l.drop (i + 1) := by
  rw [List.drop_eq_getElem_cons h, List.getD_eq_getElem?_getD, List.getElem?_eq_getElem h]
  rfl
theorem getD_mem (l : List α) (d : α) (i : Nat) (h : i < l.length) : l.getD i d ∈ l := by
  rw [List.getD_eq_getElem?_getD, List.getElem?_eq_getElem h]
  exact List.getElem_mem h
theorem getD_eq (l : List α) (d : α) (i : Nat) (h : i < l.length) : l.getD i d = l[i] := by
  rw [List.getD_eq_getElem?_getD, List.getElem?_eq_getElem h]; rfl

/-! ### loops that count up -/
theorem loop_up (L : Nat → Nat → Nat → Option α) (n : Nat) (R : Nat → α) (hend : EvL (fun k j => L k j n) (R n)) (hstep : ∀ i, i < n → EvL (fun k j => L k j (i + 1)) (R (i + 1)) → EvL (fun k j => L k j i) (R i)) :
    ∀ i, i ≤ n → EvL (fun k j => L k j i) (R i) := by
  have key : ∀ d i, i + d = n → EvL (fun k j => L k j i) (R i) := by
    intro d
    induction d with
    | zero => intro i hi; obtain rfl : i = n := by omega
              exact hend
    | succ d ih => intro i hi; exact hstep i (by omega) (ih (i + 1) (by omega))
  exact fun i hi => key (n - i) i (by omega)
/-- Each is asked; the first that is not so ends it. -/
theorem all_loop (L : Nat → Nat → Nat → Option Bool) (l : List α) (d : α) (p : Nat → Bool) (hend : ∀ k j, L k (j + 1) l.length = some true)
    (hstep : ∀ i, i < l.length → ∀ rest, EvL (fun k j => L k j (i + 1)) rest → EvL (fun k j => L k j i) (p i && rest)) :
    EvL (fun k j => L k j 0) ((List.range l.length).all p) := by
  rw [List.range_eq_range']
  refine loop_up L l.length (fun i => (List.range' i (l.length - i)).all p) ?_ (fun i hi h => ?_) 0 (by omega)
  · rw [Nat.sub_self]
    exact EvL.step (M := fun _ _ => some true) hend (EvL.now _)
  · have := hstep i hi _ h
    obtain ⟨m, hm⟩ : ∃ m, l.length - i = m + 1 := ⟨l.length - i - 1, by omega⟩
    have hm2 : l.length - (i + 1) = m := by omega
    rw [hm2] at this
    rw [hm, List.range'_succ, List.all_cons]
    exact this
/-- A thing is asked, and each but the first beside the one ahead of it. -/
def pairAt (d : α) (ok : α → Bool) (less : α → α → Bool) (l : List α) (i : Nat) : Bool := ok (l.getD i d) && (decide (i = 0) || less (l.getD (i - 1) d) (l.getD i d))
def listM (ok : α → Bool) (less : α → α → Bool) : List α → Bool
  | [] => true
  | x :: r => ok x && goM ok less x r
where goM (ok : α → Bool) (less : α → α → Bool) : α → List α → Bool
  | _, [] => true
  | x, y :: r => (ok y && less x y) && goM ok less y r
theorem goM_drop (d : α) (ok : α → Bool) (less : α → α → Bool) (l : List α) : ∀ (m i : Nat), i + m + 1 = l.length → listM.goM ok less (l.getD i d) (l.drop (i + 1)) = (List.range' (i + 1) m).all (pairAt d ok less l)
  | 0, i, h => by rw [List.drop_of_length_le (by omega)]; rfl
  | m + 1, i, h => by
    rw [getD_drop l d (i + 1) (by omega), List.range'_succ, List.all_cons, listM.goM, goM_drop d ok less l m (i + 1) (by omega)]
    congr 1
theorem listM_range (d : α) (ok : α → Bool) (less : α → α → Bool) (l : List α) : listM ok less l = (List.range l.length).all (pairAt d ok less l) := by
  cases l with
  | nil => rfl
  | cons x r =>
    have := goM_drop d ok less (x :: r) r.length 0 (by simp)
    rw [List.range_eq_range', List.length_cons, List.range'_succ, List.all_cons, ← this]
    simp [listM, pairAt]
theorem pair_loop (L : Nat → Nat → Nat → Option Bool) (l : List α) (d : α) (ok : α → Bool) (less : α → α → Bool) (hend : ∀ k j, L k (j + 1) l.length = some true)
    (hstep : ∀ i, i < l.length → ∃ g1 g2 : Nat → Option Bool, Ev g1 (ok (l.getD i d)) ∧ (0 < i → Ev g2 (less (l.getD (i - 1) d) (l.getD i d))) ∧
      ∀ k j, L k (j + 1) i = (g1 k).bind fun t => cond (!t) (some false) (cond (decide (0 < i)) ((g2 k).bind fun u => cond (!u) (some false) (L k j (i + 1))) (L k j (i + 1)))) :
    EvL (fun k j => L k j 0) (listM ok less l) := by
  rw [listM_range d]
  refine all_loop L l d _ hend fun i hi rest h => ?_
  obtain ⟨g1, g2, h1, h2, hs⟩ := hstep i hi
  refine EvL.step hs (EvL.bind h1 ?_)
  unfold pairAt
  refine EvL.cond (fun h0 => ?_) fun h0 => ?_
  · have : ok (l.getD i d) = false := by simpa using h0
    rw [this]; exact EvL.now _
  · have : ok (l.getD i d) = true := by simpa using h0
    rw [this, Bool.true_and]
    refine EvL.cond (fun hp => ?_) fun hp => ?_
    · have hp : 0 < i := by simpa using hp
      rw [decide_eq_false (by omega : ¬ i = 0), Bool.false_or]
      refine EvL.bind (h2 hp) (EvL.cond (fun hu => ?_) fun hu => ?_)
      · have : less (l.getD (i - 1) d) (l.getD i d) = false := by simpa using hu
        rw [this]; exact EvL.now _
      · have : less (l.getD (i - 1) d) (l.getD i d) = true := by simpa using hu
        rw [this, Bool.true_and]; exact h
    · have hp : ¬ 0 < i := by simpa using hp
      rw [decide_eq_true (by omega : i = 0), Bool.true_or, Bool.true_and]; exact h
/-- What a copying loop has after i rounds. -/
def cpart (l : List α) (z : α) (i : Nat) : List α := l.take i ++ List.replicate (l.length - i) z
theorem cpart_zero (l : List α) (z : α) : cpart l z 0 = List.replicate l.length z := by simp [cpart]
theorem cpart_end (l : List α) (z : α) : cpart l z l.length = l := by simp [cpart]
theorem cpart_length (l : List α) (z : α) (i : Nat) (h : i ≤ l.length) : (cpart l z i).length = l.length := by simp [cpart]; omega
theorem cpart_set (l : List α) (z d : α) (i : Nat) (h : i < l.length) : (cpart l z i).set i (l.getD i d) = cpart l z (i + 1) := by
  have e1 : l.getD i d = l[i] := getD_eq l d i h
  unfold cpart
  rw [e1, List.set_append_right _ _ (by rw [List.length_take]; exact Nat.min_le_left _ _), List.take_succ_eq_append_getElem h, List.append_assoc]
  congr 1
  have : min i l.length = i := by omega
  obtain ⟨m, hm⟩ : ∃ m, l.length - i = m + 1 := ⟨l.length - i - 1, by omega⟩
  have hm2 : l.length - (i + 1) = m := by omega
  rw [hm, hm2, List.length_take, this, Nat.sub_self, List.replicate_succ]
  rfl
/-- A loop that copies, element by element. -/
theorem copy_loop (L : Nat → Nat → List β → Nat → Option (List β)) (l : List α) (d : α) (z : β) (c : α → β) (hend : ∀ k j x, L k (j + 1) x l.length = some x)
    (hstep : ∀ i, i < l.length → ∃ g : Nat → Option β, Ev g (c (l.getD i d)) ∧ ∀ k j x, x.length = l.length → L k (j + 1) x i = (g k).bind fun t => L k j (x.set i t) (i + 1)) :
    EvL (fun k j => L k j (List.replicate l.length z) 0) (l.map c) := by
  have e0 : List.replicate l.length z = cpart (l.map c) z 0 := by rw [cpart_zero, List.length_map]
  rw [e0]
  refine loop_up (fun k j i => L k j (cpart (l.map c) z i) i) l.length (fun _ => l.map c) ?_ ?_ 0 (by omega)
  · refine EvL.step (M := fun _ _ => some (cpart (l.map c) z l.length)) (fun k j => hend k j _) ((EvL.now _).to ?_)
    have := cpart_end (l.map c) z
    rwa [List.length_map] at this
  · intro i hi h1
    obtain ⟨g, hg, hs⟩ := hstep i hi
    refine EvL.step (M := fun k j => (g k).bind fun t => L k j ((cpart (l.map c) z i).set i t) (i + 1)) (fun k j => hs k j _ (by rw [cpart_length _ _ _ (by simp; omega), List.length_map])) (EvL.bind hg ?_)
    have e1 : c (l.getD i d) = (l.map c).getD i (c d) := by
      rw [List.getD_eq_getElem?_getD, List.getD_eq_getElem?_getD, List.getElem?_map, List.getElem?_eq_getElem hi]; rfl
    rw [e1, cpart_set _ _ _ _ (by simpa using hi)]
    exact h1
/-- A loop that compares, element by element. -/
theorem eq_loop [DecidableEq α] (L : Nat → Nat → Nat → Option Bool) (a b : List α) (d : α) (hl : a.length = b.length) (hend : ∀ k j, L k (j + 1) a.length = some true)
    (hstep : ∀ i, i < a.length → ∃ g : Nat → Option Bool, Ev g (decide (a.getD i d = b.getD i d)) ∧ ∀ k j, L k (j + 1) i = (g k).bind fun t => cond (!t) (some false) (L k j (i + 1))) :
    EvL (fun k j => L k j 0) (decide (a = b)) := by
  have := loop_up L a.length (fun i => decide (a.drop i = b.drop i)) ?_ (fun i hi h => ?_) 0 (by omega)
  · simpa using this
  · refine EvL.step (M := fun _ _ => some true) hend ((EvL.now _).to ?_)
    rw [List.drop_of_length_le (by omega), List.drop_of_length_le (by omega)]; simp
  · obtain ⟨g, hg, hs⟩ := hstep i hi
    refine EvL.step hs (EvL.bind hg (EvL.cond (fun h0 => ?_) fun h0 => ?_))
    · have h0 : ¬ a.getD i d = b.getD i d := by simpa using h0
      refine (EvL.now _).to ?_
      rw [getD_drop a d i hi, getD_drop b d i (by omega)]
      simp only [List.cons.injEq]
      rw [decide_eq_false (fun hh => h0 hh.1)]
    · have h0 : a.getD i d = b.getD i d := by simpa using h0
      refine h.to ?_
      rw [getD_drop a d i hi, getD_drop b d i (by omega), h0]
      simp
/-- A loop that takes what is left, element by element: a law's measure. -/
theorem sz_loop (L : Nat → Nat → Int → Nat → Option Int) (l : List α) (d : α) (p : α → Prop) (hend : ∀ k j c, L k (j + 1) c l.length = some c)
    (hstep : ∀ i, i < l.length → ∀ c, 0 ≤ c → c ≤ 1048576 → ∃ (g : Nat → Option Int) (r : Int), Ev g r ∧ r ≤ 1048576 ∧ (0 ≤ r → p (l.getD i d)) ∧ ∀ k j, L k (j + 1) c i = (g k).bind fun t => cond (decide (t < 0)) (some (-1)) (L k j t (i + 1)))
    (c : Int) (h0 : 0 ≤ c) (h1 : c ≤ 1048576) : ∃ r, EvL (fun k j => L k j c 0) r ∧ r ≤ 1048576 ∧ (0 ≤ r → ∀ x ∈ l, p x) := by
  have key : ∀ m i (c : Int), i + m = l.length → 0 ≤ c → c ≤ 1048576 → ∃ r, EvL (fun k j => L k j c i) r ∧ r ≤ 1048576 ∧ (0 ≤ r → ∀ x ∈ l.drop i, p x) := by
    intro m
    induction m with
    | zero =>
      intro i c hi hc0 hc1
      obtain rfl : i = l.length := by omega
      refine ⟨c, EvL.step (M := fun _ _ => some c) (fun k j => hend k j c) (EvL.now _), hc1, fun _ x hx => ?_⟩
      rw [List.drop_length] at hx
      cases hx
    | succ m ih =>
      intro i c hi hc0 hc1
      obtain ⟨g, r, hg, hr1, hr2, hs⟩ := hstep i (by omega) c hc0 hc1
      by_cases hr : r < 0
      · refine ⟨-1, EvL.step hs (EvL.bind hg (EvL.cond (fun _ => EvL.now _) fun h => ?_)), by omega, by omega⟩
        rw [decide_eq_true hr] at h; cases h
      · obtain ⟨r', h2, h3, h4⟩ := ih (i + 1) r (by omega) (by omega) hr1
        refine ⟨r', EvL.step hs (EvL.bind hg (EvL.cond (fun h => ?_) fun _ => h2)), h3, fun h5 x hx => ?_⟩
        · rw [decide_eq_false hr] at h; cases h
        · rw [getD_drop l d i (by omega)] at hx
          rcases List.mem_cons.1 hx with rfl | hx
          · exact hr2 (by omega)
          · exact h4 h5 x hx
  simpa using key l.length 0 c (by omega) h0 h1
end
/-! ### forks of what is known -/
section
variable {α : Type}
theorem Ev.of {g : Nat → Option α} {r : α} (d : Nat) (h : ∀ m, g (m + d) = some r) : Ev g r :=
  ⟨d, fun k hk => by obtain ⟨m, rfl⟩ : ∃ m, k = m + d := ⟨k - d, by omega⟩
                     exact h m⟩
theorem cS (b : Bool) (x y : α) : cond b (some x) (some y) = some (cond b x y) := by cases b <;> rfl
theorem cA (b x : Bool) : cond b x false = (b && x) := by cases b <;> rfl
theorem cN (b x : Bool) : cond (!b) false x = (b && x) := by cases b <;> rfl
theorem Ev.and {g h : Nat → Option Bool} {b r : Bool} (hg : Ev g b) (hh : b = true → Ev h r) : Ev (fun k => (g k).bind fun x => _root_.cond (!x) (some false) (h k)) (b && r) := by
  refine Ev.bind hg ?_
  cases b with
  | false => exact Ev.now _
  | true => exact hh rfl
theorem Ev.and' {g h : Nat → Option Bool} {b r : Bool} (hg : Ev g b) (hh : b = true → Ev h r) : Ev (fun k => (g k).bind fun x => _root_.cond x (h k) (some false)) (b && r) := by
  refine Ev.bind hg ?_
  cases b with
  | false => exact Ev.now _
  | true => exact hh rfl
theorem EvL.and {g : Nat → Option Bool} {M : Nat → Nat → Option Bool} {b r : Bool} (hg : Ev g b) (hh : b = true → EvL M r) : EvL (fun k j => (g k).bind fun x => _root_.cond (!x) (some false) (M k j)) (b && r) := by
  refine EvL.bind hg ?_
  cases b with
  | false => exact EvL.now _
  | true => exact hh rfl
theorem EvL.and' {g : Nat → Option Bool} {M : Nat → Nat → Option Bool} {b r : Bool} (hg : Ev g b) (hh : b = true → EvL M r) : EvL (fun k j => (g k).bind fun x => _root_.cond x (M k j) (some false)) (b && r) := by
  refine EvL.bind hg ?_
  cases b with
  | false => exact EvL.now _
  | true => exact hh rfl
theorem Ev.andc {h : Nat → Option Bool} {b r : Bool} (hh : b = true → Ev h r) : Ev (fun k => _root_.cond b (h k) (some false)) (b && r) := by
  cases b with
  | false => exact Ev.now _
  | true => exact hh rfl
theorem Ev.andn {h : Nat → Option Bool} {b r : Bool} (hh : b = false → Ev h r) : Ev (fun k => _root_.cond b (some false) (h k)) (!b && r) := by
  cases b with
  | true => exact Ev.now _
  | false => exact hh rfl
theorem EvL.andn {M : Nat → Nat → Option Bool} {b r : Bool} (hh : b = false → EvL M r) : EvL (fun k j => _root_.cond b (some false) (M k j)) (!b && r) := by
  cases b with
  | true => exact EvL.now _
  | false => exact hh rfl
theorem EvL.pair {i : Nat} {g : Nat → Option Bool} {M : Nat → Nat → Option Bool} {b r : Bool} (hg : 0 < i → Ev g b) (hh : EvL M r) : EvL (fun k j => _root_.cond (decide (0 < i)) ((g k).bind fun x => _root_.cond (!x) (some false) (M k j)) (M k j)) ((decide (i = 0) || b) && r) := by
  by_cases h0 : 0 < i
  · simp only [decide_eq_true h0, decide_eq_false (by omega : ¬ i = 0), Bool.false_or, cond_true]
    exact EvL.and (hg h0) fun _ => hh
  · simp only [decide_eq_false h0, decide_eq_true (by omega : i = 0), Bool.true_or, Bool.true_and, cond_false]
    exact hh
end
end Go.Pl
