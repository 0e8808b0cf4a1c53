/- Heaps as lists: what stays where two are told apart and put in each other's place; rows in order. Any things. -/
import Derived.Test.YtjgpacfhokpfdaaFFnWordBack
import Derived.Test.YtjgpacfhokpfdaaPl
set_option linter.unusedVariables false
set_option linter.unusedSimpArgs false
namespace Go.Proofs.Ytjgpacfhokpfdaa.SFnWordBack
open Go Go.Sx Go.Pl
/-- A strict total order. -/
structure Tot {α : Type} (less : α → α → Bool) : Prop where
  asym : ∀ x y, less x y = true → less y x = false
  trans : ∀ x y z, less x y = true → less y z = true → less x z = true
  tot : ∀ x y, less x y = false → less y x = false → x = y

def le {α : Type} (less : α → α → Bool) (x y : α) : Prop := less y x = false

theorem le_of {α : Type} {less : α → α → Bool} (T : Tot less) {x y : α} (h : less x y = true) : le less x y := T.asym x y h

theorem le_tr {α : Type} {less : α → α → Bool} (T : Tot less) {x y z : α} (h : le less x y) (h' : le less y z) : le less x z := by
  unfold le at *
  cases hzx : less z x with
  | false => rfl
  | true =>
    cases hxy : less x y with
    | true => have := T.trans z x y hzx hxy; rw [h'] at this; cases this
    | false => have := T.tot x y hxy h; subst this; rw [h'] at hzx; cases hzx

theorem le_rf {α : Type} {less : α → α → Bool} (T : Tot less) (x : α) : le less x x := by
  unfold le
  cases h : less x x with
  | false => rfl
  | true => exact absurd (T.asym x x h) (by rw [h]; decide)

theorem le_anti {α : Type} {less : α → α → Bool} (T : Tot less) {x y : α} (h : le less x y) (h' : le less y x) : x = y := T.tot x y h' h

theorem sorted_eq {α : Type} {less : α → α → Bool} (T : Tot less) {a b : List α} (ha : a.Pairwise (le less)) (hb : b.Pairwise (le less)) (hp : a.Perm b) : a = b :=
  List.Perm.eq_of_pairwise (le := le less) (fun x y _ _ h h' => le_anti T h h') ha hb hp

def swp {α : Type} (d : α) (l : List α) (i j : Nat) : List α := (l.set i (l.getD j d)).set j (l.getD i d)

theorem gD {α : Type} (l : List α) (d : α) (i : Nat) (h : i < l.length) : l.getD i d = l[i] := by
  rw [List.getD_eq_getElem?_getD, List.getElem?_eq_getElem h]; rfl

theorem swp_len {α : Type} (d : α) (l : List α) (i j : Nat) : (swp d l i j).length = l.length := by simp [swp]

theorem swp_perm {α : Type} (d : α) (l : List α) (i j : Nat) (hi : i < l.length) (hj : j < l.length) : (swp d l i j).Perm l := by
  unfold swp
  rw [gD l d i hi, gD l d j hj]
  exact List.set_set_perm hi hj

theorem swp_get {α : Type} (d : α) (l : List α) (i j k : Nat) (hi : i < l.length) (hj : j < l.length) :
    (swp d l i j).getD k d = if k = j then l.getD i d else if k = i then l.getD j d else l.getD k d := by
  by_cases hk : k < l.length
  · rw [gD _ d k (by rw [swp_len]; exact hk)]
    unfold swp
    rw [List.getElem_set, List.getElem_set]
    by_cases h1 : k = j
    · subst h1; rw [if_pos rfl, if_pos rfl]
    · rw [if_neg h1, if_neg (fun e => h1 e.symm)]
      by_cases h2 : k = i
      · subst h2; rw [if_pos rfl, if_pos rfl]
      · rw [if_neg h2, if_neg (fun e => h2 e.symm), gD l d k hk]
  · rw [if_neg (by omega), if_neg (by omega)]
    rw [List.getD_eq_getElem?_getD, List.getD_eq_getElem?_getD, List.getElem?_eq_none (by rw [swp_len]; omega), List.getElem?_eq_none (by omega)]

theorem swp_comm {α : Type} (d : α) (l : List α) (i j : Nat) (h : i ≠ j) : swp d l i j = swp d l j i := by
  unfold swp
  exact List.set_comm _ _ h

def Heap {α : Type} (less : α → α → Bool) (d : α) (l : List α) : Prop := ∀ i, 0 < i → i < l.length → le less (l.getD ((i - 1) / 2) d) (l.getD i d)

/-- A heap but for one thing that may have to go up. -/
def HeapUp {α : Type} (less : α → α → Bool) (d : α) (l : List α) (a : Nat) : Prop :=
  (∀ i, 0 < i → i < l.length → i ≠ a → le less (l.getD ((i - 1) / 2) d) (l.getD i d)) ∧
  (∀ i, 0 < i → i < l.length → (i - 1) / 2 = a → 0 < a → le less (l.getD ((a - 1) / 2) d) (l.getD i d))

/-- A heap but for one thing that may have to go down. -/
def HeapDn {α : Type} (less : α → α → Bool) (d : α) (l : List α) (a : Nat) : Prop :=
  (∀ i, 0 < i → i < l.length → (i - 1) / 2 ≠ a → le less (l.getD ((i - 1) / 2) d) (l.getD i d)) ∧
  (∀ i, 0 < i → i < l.length → (i - 1) / 2 = a → 0 < a → le less (l.getD ((a - 1) / 2) d) (l.getD i d))

theorem up_end {α : Type} {less : α → α → Bool} {d : α} {l : List α} {a : Nat} (h : HeapUp less d l a) (he : a = 0 ∨ le less (l.getD ((a - 1) / 2) d) (l.getD a d)) : Heap less d l := by
  intro i h0 h1
  by_cases hi : i = a
  · subst hi
    rcases he with he | he
    · omega
    · exact he
  · exact h.1 i h0 h1 hi

theorem up_step {α : Type} {less : α → α → Bool} (T : Tot less) {d : α} {l : List α} {a : Nat} (h : HeapUp less d l a) (h0 : 0 < a) (ha : a < l.length) (hl : less (l.getD a d) (l.getD ((a - 1) / 2) d) = true) :
    HeapUp less d (swp d l a ((a - 1) / 2)) ((a - 1) / 2) := by
  have hu : (a - 1) / 2 < l.length := by omega
  have hua : (a - 1) / 2 < a := by omega
  have hle := le_of T hl
  refine ⟨fun i i0 i1 hne => ?_, fun i i0 i1 hp hu0 => ?_⟩
  · rw [swp_len] at i1
    rw [swp_get d l _ _ _ ha hu, swp_get d l _ _ _ ha hu]
    by_cases hia : i = a
    · subst hia
      rw [if_pos rfl, if_neg hne, if_pos rfl]; exact hle
    · rw [if_neg hne, if_neg hia]
      by_cases hp : (i - 1) / 2 = (a - 1) / 2
      · rw [if_pos hp]
        have := h.1 i i0 i1 hia
        rw [hp] at this
        exact le_tr T hle this
      · rw [if_neg hp]
        by_cases hq : (i - 1) / 2 = a
        · rw [if_pos hq]; exact h.2 i i0 i1 hq h0
        · rw [if_neg hq]; exact h.1 i i0 i1 hia
  · rw [swp_len] at i1
    rw [swp_get d l _ _ _ ha hu, swp_get d l _ _ _ ha hu]
    have hg := h.1 ((a - 1) / 2) hu0 hu (by omega)
    rw [if_neg (by omega : ¬ ((a - 1) / 2 - 1) / 2 = (a - 1) / 2), if_neg (by omega : ¬ ((a - 1) / 2 - 1) / 2 = a), if_neg (by omega : ¬ i = (a - 1) / 2)]
    by_cases hia : i = a
    · rw [if_pos hia]; exact hg
    · rw [if_neg hia]
      have := h.1 i i0 i1 hia
      rw [hp] at this
      exact le_tr T hg this

theorem dn_end {α : Type} {less : α → α → Bool} {d : α} {l : List α} {a : Nat} (h : HeapDn less d l a) (he : ∀ i, 0 < i → i < l.length → (i - 1) / 2 = a → le less (l.getD a d) (l.getD i d)) : Heap less d l := by
  intro i h0 h1
  by_cases hi : (i - 1) / 2 = a
  · rw [hi]; exact he i h0 h1 hi
  · exact h.1 i h0 h1 hi

theorem dn_step {α : Type} {less : α → α → Bool} (T : Tot less) {d : α} {l : List α} {a c : Nat} (h : HeapDn less d l a) (c0 : 0 < c) (hc : c < l.length) (hca : (c - 1) / 2 = a) (hmin : ∀ i, 0 < i → i < l.length → (i - 1) / 2 = a → le less (l.getD c d) (l.getD i d))
    (hl : less (l.getD c d) (l.getD a d) = true) : HeapDn less d (swp d l c a) c := by
  have ha : a < l.length := by omega
  have hac : a < c := by omega
  have hle := le_of T hl
  refine ⟨fun i i0 i1 hne => ?_, fun i i0 i1 hp _ => ?_⟩
  · rw [swp_len] at i1
    rw [swp_get d l _ _ _ hc ha, swp_get d l _ _ _ hc ha]
    by_cases hia : i = a
    · subst hia
      rw [if_pos rfl, if_neg (by omega), if_neg hne]
      exact h.2 c c0 hc hca i0
    · rw [if_neg hia]
      by_cases hp : (i - 1) / 2 = a
      · rw [if_pos hp]
        by_cases hic : i = c
        · rw [if_pos hic]; exact hle
        · rw [if_neg hic]; exact hmin i i0 i1 hp
      · rw [if_neg hp, if_neg hne, if_neg (by rintro rfl; exact hp hca)]
        exact h.1 i i0 i1 hp
  · rw [swp_len] at i1
    rw [swp_get d l _ _ _ hc ha, swp_get d l _ _ _ hc ha, hca, if_pos rfl, if_neg (by omega : ¬ i = a), if_neg (by omega : ¬ i = c)]
    have := h.1 i i0 i1 (by omega)
    rw [hp] at this
    exact this

theorem root_least {α : Type} {less : α → α → Bool} (T : Tot less) {d : α} {l : List α} (h : Heap less d l) : ∀ i, i < l.length → le less (l.getD 0 d) (l.getD i d) := by
  intro i
  induction i using Nat.strongRecOn with
  | _ i ih =>
    intro hi
    by_cases h0 : i = 0
    · subst h0; exact le_rf T _
    · exact le_tr T (ih ((i - 1) / 2) (by omega) (by omega)) (h i (by omega) hi)

/-- What is left behind the first has gone: the last is in its place. -/
def rst {α : Type} (d : α) (l : List α) : List α := (l.set 0 (l.getD (l.length - 1) d)).take (l.length - 1)

theorem rst_len {α : Type} (d : α) (l : List α) : (rst d l).length = l.length - 1 := by simp [rst]

theorem rst_get {α : Type} (d : α) (l : List α) (i : Nat) (h : i < l.length - 1) : (rst d l).getD i d = if i = 0 then l.getD (l.length - 1) d else l.getD i d := by
  rw [gD _ d i (by rw [rst_len]; exact h)]
  unfold rst
  rw [List.getElem_take, List.getElem_set]
  by_cases h0 : i = 0
  · subst h0; rw [if_pos rfl, if_pos rfl]
  · rw [if_neg (fun e => h0 e.symm), if_neg h0, gD l d i (by omega)]

theorem rst_perm {α : Type} (d : α) (l : List α) (h : 0 < l.length) : (l.getD 0 d :: rst d l).Perm l := by
  cases l with
  | nil => simp at h
  | cons a t =>
    show (a :: rst d (a :: t)).Perm (a :: t)
    refine List.Perm.cons a ?_
    unfold rst
    rw [List.set_cons_zero]
    cases t with
    | nil => exact List.Perm.refl _
    | cons b t =>
      have e1 : (a :: b :: t).length - 1 = t.length + 1 := rfl
      rw [e1, List.take_succ_cons]
      have e2 : (a :: b :: t).getD (t.length + 1) d = (b :: t).getD t.length d := rfl
      rw [e2, gD (b :: t) d t.length (by simp)]
      have e3 : (b :: t).take t.length ++ [(b :: t)[t.length]'(by simp)] = b :: t := by
        rw [← List.take_succ_eq_append_getElem (by simp), List.take_of_length_le (by simp)]
      have e4 : ((b :: t)[t.length]'(by simp) :: (b :: t).take t.length).Perm ((b :: t).take t.length ++ [(b :: t)[t.length]'(by simp)]) := by
        have := List.perm_append_comm (l₁ := [(b :: t)[t.length]'(by simp)]) (l₂ := (b :: t).take t.length)
        simpa using this
      rw [e3] at e4
      exact e4

theorem rst_dn {α : Type} {less : α → α → Bool} {d : α} {l : List α} (h : Heap less d l) : HeapDn less d (rst d l) 0 := by
  refine ⟨fun i i0 i1 hne => ?_, fun i i0 i1 hp h0 => absurd h0 (by omega)⟩
  rw [rst_len] at i1
  rw [rst_get d l i i1, rst_get d l _ (by omega), if_neg hne, if_neg (by omega)]
  exact h i i0 (by omega)

theorem push_up {α : Type} {less : α → α → Bool} {d : α} {l : List α} (h : Heap less d l) (x : α) : HeapUp less d (l ++ [x]) l.length := by
  have hg : ∀ i, i < l.length → (l ++ [x]).getD i d = l.getD i d := fun i hi => by
    rw [gD _ d i (by simp; omega), gD l d i hi, List.getElem_append_left hi]
  refine ⟨fun i i0 i1 hne => ?_, fun i i0 i1 hp h0 => ?_⟩
  · simp at i1
    rw [hg i (by omega), hg _ (by omega)]
    exact h i i0 (by omega)
  · simp at i1
    omega

/-- One more into a row in order, behind all that are not greater. -/
def insM {α : Type} (less : α → α → Bool) (x : α) (l : List α) (k : Nat) : List α := l.take k ++ [x] ++ l.drop k

theorem ins_perm {α : Type} (less : α → α → Bool) (x : α) (l : List α) (k : Nat) : (insM less x l k).Perm (l ++ [x]) := by
  unfold insM
  rw [List.append_assoc]
  have h1 : (l.take k ++ ([x] ++ l.drop k)).Perm (l.take k ++ (l.drop k ++ [x])) := List.Perm.append_left _ List.perm_append_comm
  have h2 : l.take k ++ (l.drop k ++ [x]) = l ++ [x] := by rw [← List.append_assoc, List.take_append_drop]
  rwa [h2] at h1

theorem ins_sorted {α : Type} {less : α → α → Bool} (T : Tot less) {x : α} {l : List α} {k : Nat} (hs : l.Pairwise (le less)) (h1 : ∀ y ∈ l.take k, le less y x) (h2 : ∀ y ∈ l.drop k, le less x y) : (insM less x l k).Pairwise (le less) := by
  unfold insM
  have hs2 := hs
  rw [← List.take_append_drop k l, List.pairwise_append] at hs2
  obtain ⟨p1, p2, p3⟩ := hs2
  rw [List.append_assoc, List.pairwise_append]
  refine ⟨p1, List.pairwise_cons.2 ⟨h2, p2⟩, fun a ha b hb => ?_⟩
  rcases List.mem_cons.1 hb with rfl | hb
  · exact h1 a ha
  · exact p3 a ha b hb
end Go.Proofs.Ytjgpacfhokpfdaa.SFnWordBack
