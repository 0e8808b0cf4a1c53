/- Whether a node is ok: the reference's NodeOk and the program's are one plain function. What has come to a process, and what was sent, told as lists. -/
import Derived.Test.YtjgpacfhokpfdaaNextPlFnExactLaneCut
import Derived.Test.YtjgpacfhokpfdaaEventPlFnExactLaneCut
import Derived.Test.YtjgpacfhokpfdaaWordPlFnExactLaneCut
set_option linter.unusedVariables false
set_option linter.unusedSimpArgs false
namespace Go.Proofs.Ytjgpacfhokpfdaa.SFnExactLaneCut
open Go Go.Sx Go.Pl

/-! ### loops that gather, loops that ask -/
theorem acc_up {β : Type} (P : Nat → List β → Prop) (n : Nat) (f : Nat → List β) (acc0 : List β) (hend : P n (acc0 ++ (List.range n).flatMap f)) (hstep : ∀ i, i < n → ∀ acc, acc.length + (f i).length ≤ (acc0 ++ (List.range n).flatMap f).length → P (i + 1) (acc ++ f i) → P i acc) : P 0 acc0 := by
  have key : ∀ m i, i + m = n → P i (acc0 ++ (List.range i).flatMap f) := by
    intro m
    induction m with
    | zero => intro i hi; obtain rfl : i = n := by omega
              exact hend
    | succ m ih =>
      intro i hi
      have h1 := ih (i + 1) (by omega)
      refine hstep i (by omega) _ ?_ ?_
      · have hsub : (List.range n) = List.range i ++ (List.range' i (n - i)) := by
          have := @List.range'_append_1 0 i (n - i)
          rw [Nat.zero_add, show i + (n - i) = n from by omega] at this
          rw [List.range_eq_range', List.range_eq_range']
          exact this.symm
        obtain ⟨q, hq⟩ : ∃ q, n - i = q + 1 := ⟨n - i - 1, by omega⟩
        rw [hsub, hq, List.range'_succ]
        simp only [List.flatMap_append, List.flatMap_cons, List.length_append]
        omega
      · rw [List.range_succ, List.flatMap_append] at h1
        simpa [List.append_assoc] using h1
  have := key n 0 (by omega)
  simpa using this
theorem ask_then (L : Nat → Nat → Nat → Option Bool) (n : Nat) (p : Nat → Bool) (r : Bool) (hend : (∀ i, i < n → p i = true) → EvL (fun k j => L k j n) r)
    (hstep : ∀ i, i < n → ∀ rest, (p i = true → EvL (fun k j => L k j (i + 1)) rest) → EvL (fun k j => L k j i) (p i && rest)) : EvL (fun k j => L k j 0) ((List.range n).all p && r) := by
  have key : ∀ m i, i + m = n → (∀ q, q < i → p q = true) → EvL (fun k j => L k j i) ((List.range' i m).all p && r) := by
    intro m
    induction m with
    | zero => intro i hi ha; obtain rfl : i = n := by omega
              simpa using hend ha
    | succ m ih =>
      intro i hi ha
      rw [List.range'_succ, List.all_cons, Bool.and_assoc]
      refine hstep i (by omega) _ fun hp => ih (i + 1) (by omega) fun q hq => ?_
      by_cases hqi : q = i
      · rw [hqi]; exact hp
      · exact ha q (by omega)
  have := key n 0 (by omega) (fun q hq => by omega)
  rwa [← List.range_eq_range'] at this
theorem Ok3.eq_out {α : Type} {r : α} {L : Nat → Nat → Nat → Option α} (h : Ok3 L (fun b => b = r)) : EvL (fun k i => L k i k) r := by
  obtain ⟨b, hb, rfl⟩ := h.inn
  exact hb
theorem EvL.ok {α : Type} {r : α} {L : Nat → Nat → Option α} (h : EvL L r) : OkL L (fun b => b = r) := ⟨r, h, rfl⟩

/-! ### the node -/
abbrev Vw := Int × Int × List Ev7
abbrev Nd := Int × Bool × Int × Int × List La × List Ev7 × List Ou5 × Int × Int × List Vw × List Int × Int × Int
abbrev Kp := Int × Int × Int × Int × List St3 × List Ev7 × List Ou5
abbrev Bd := Kp × Bool × List (List Pa) × Int × List (Int × Vw) × List Int × Int × Int
abbrev dE7 : Ev7 := dflt t_impl_Event
abbrev dLa : La := dflt t_impl_Lane
abbrev dPa : Pa := dflt t_impl_Past
theorem evM_wf {x : Ev7} (h : evM x = true) : WfE x := by
  unfold evM inB at h
  simp only [Bool.and_eq_true, decide_eq_true_eq] at h
  have wf : ∀ n : Int, -1000 ≤ n → n ≤ 1000 → (Lit.int .i64 n).wf = true := fun n h1 h2 => by
    simp [Lit.wf, IntKind.min, IntKind.max, IntKind.signed, IntKind.bits]
    omega
  obtain ⟨⟨a, b⟩, ⟨c, d⟩, ⟨e, f⟩, ⟨g, i⟩, ⟨j, k⟩, ⟨l, m⟩, ⟨n, o⟩⟩ := h
  exact ⟨wf _ (by omega) (by omega), wf _ (by omega) (by omega), wf _ (by omega) (by omega), wf _ (by omega) (by omega), wf _ (by omega) (by omega), wf _ (by omega) (by omega), wf _ (by omega) (by omega)⟩
theorem listM_all {α : Type} {ok : α → Bool} {less : α → α → Bool} : ∀ {l : List α}, listM ok less l = true → ∀ x ∈ l, ok x = true := by
  intro l h x hx
  have hr := listM_range x ok less l
  rw [hr] at h
  obtain ⟨i, hi, he⟩ := List.mem_iff_getElem.1 hx
  have := List.all_eq_true.1 h i (List.mem_range.2 hi)
  unfold pairAt at this
  simp only [Bool.and_eq_true] at this
  rw [getD_eq _ _ _ hi, he] at this
  exact this.1
theorem eventsM_all {l : List Ev7} {n : Int} (h : eventsM l n = true) : (l.length : Int) ≤ n ∧ ∀ x ∈ l, WfE x := by
  unfold eventsM at h
  simp only [Bool.and_eq_true, decide_eq_true_eq] at h
  exact ⟨h.1, fun x hx => evM_wf (listM_all h.2 x hx)⟩
/-- What is in order of the events, each once. -/
noncomputable def sortM (l : List Ev7) : List Ev7 := open Classical in if h : ∃ s, Srt s ∧ ∀ y, y ∈ s ↔ y ∈ l then Classical.choose h else []
/-! ### the processes of a node -/
def procsM (id : Int) : List Int := (List.range 4).flatMap fun (p : Nat) => if ((p : Int).tmod 3 == id) then [(p : Int)] else []
theorem procs_le (id : Int) : (procsM id).length ≤ 4 := by
  unfold procsM
  simp only [show List.range 4 = [0, 1, 2, 3] from rfl, List.flatMap_cons, List.flatMap_nil, List.length_append]
  have h : ∀ (c : Bool) (x : Int), (if c = true then [x] else []).length ≤ 1 := fun c x => by cases c <;> simp
  have h0 := h (((0 : Nat) : Int).tmod 3 == id) ((0 : Nat) : Int)
  have h1 := h (((1 : Nat) : Int).tmod 3 == id) ((1 : Nat) : Int)
  have h2 := h (((2 : Nat) : Int).tmod 3 == id) ((2 : Nat) : Int)
  have h3 := h (((3 : Nat) : Int).tmod 3 == id) ((3 : Nat) : Int)
  simp only [List.length_nil]
  omega
def lanesM (id : Int) : List La := (procsM id).map fun p => (p, (0, 0, 0), [])
theorem lanes_eq (id : Int) : lanesM id = (List.range 4).flatMap fun (p : Nat) => if ((p : Int).tmod 3 == id) then [((p : Int), ((0, 0, 0) : St3), ([] : List Pa))] else [] := by
  unfold lanesM procsM
  rw [List.map_flatMap]
  congr 1
  funext p
  split <;> rfl
/-! ### what was sent -/
def doneM (n : Nd) : List (List Pa) := n.2.2.2.2.1.map (·.2.2)
def sendsM (d : List Pa) : List Ev7 := d.flatMap (·.2.2.1)
def sentM (kept : List Ev7) (done : List (List Pa)) : List Ev7 := kept ++ done.flatMap sendsM
theorem flat_range {α β : Type} (l : List α) (d : α) (f : α → List β) : l.flatMap f = (List.range l.length).flatMap fun i => f (l.getD i d) := by
  induction l with
  | nil => rfl
  | cons x r ih =>
    rw [List.flatMap_cons, ih, List.length_cons, List.range_succ_eq_map, List.flatMap_cons, List.flatMap_map]
    rfl
theorem implClone (l : List Ev7) (h : l.length ≤ 1048576) : Ev (fun k => slices_Clone_impl_Event_impl_Event k l) l := by
  refine Ev.step (fun k => slices_Clone_impl_Event_impl_Event_eq k l) ?_
  have c1 : (0 + l.length) * 56 ≤ 140737488351232 := by omega
  simp only [decide_eq_true c1, cond_true]
  exact Ev.now _
/-! ### what has come -/
def toP (proc g : Int) (e : Ev7) : Bool := e.2.1 == proc && decide (e.1 ≥ g)
theorem filter_range {α : Type} (l : List α) (d : α) (p : α → Bool) : l.filter p = (List.range l.length).flatMap fun i => if p (l.getD i d) = true then [l.getD i d] else [] := by
  rw [← flat_range l d fun x => if p x = true then [x] else []]
  induction l with
  | nil => rfl
  | cons x r ih =>
    rw [List.flatMap_cons, List.filter_cons, ih]
    split <;> rfl
end Go.Proofs.Ytjgpacfhokpfdaa.SFnExactLaneCut
