/- Whether a node is ok: the reference's NodeOk and the program's are one plain function. What has come to a process, and what was sent, told as lists. -/
import Derived.Test.YtjhldhlmckbapaaGreatNextPlFnExactHubOuts
import Derived.Test.YtjhldhlmckbapaaGreatEventPlFnExactHubOuts
import Derived.Test.YtjhldhlmckbapaaGreatWordPlFnExactHubOuts
set_option linter.unusedVariables false
set_option linter.unusedSimpArgs false
namespace Go.Proofs.YtjhldhlmckbapaaGreat.SFnExactHubOuts
open Go Go.Sx Go.Pl

/-! ### loops that gather, loops that ask -/
theorem acc_up {β : Type} (P : Nat → List β → Prop) (n : Nat) (f : Nat → List β) (acc0 : List β) (hend : P n (acc0 ++ (List.range n).flatMap f)) (hstep : ∀ i, i < n → ∀ acc, acc.length + (f i).length ≤ (acc0 ++ (List.range n).flatMap f).length → P (i + 1) (acc ++ f i) → P i acc) : P 0 acc0 := by
  have key : ∀ m i, i + m = n → P i (acc0 ++ (List.range i).flatMap f) := by
    intro m
    induction m with
    | zero => intro i hi; obtain rfl : i = n := by omega
              exact hend
    | succ m ih =>
      intro i hi
      have h1 := ih (i + 1) (by omega)
      refine hstep i (by omega) _ ?_ ?_
      · have hsub : (List.range n) = List.range i ++ (List.range' i (n - i)) := by
          have := @List.range'_append_1 0 i (n - i)
          rw [Nat.zero_add, show i + (n - i) = n from by omega] at this
          rw [List.range_eq_range', List.range_eq_range']
          exact this.symm
        obtain ⟨q, hq⟩ : ∃ q, n - i = q + 1 := ⟨n - i - 1, by omega⟩
        rw [hsub, hq, List.range'_succ]
        simp only [List.flatMap_append, List.flatMap_cons, List.length_append]
        omega
      · rw [List.range_succ, List.flatMap_append] at h1
        simpa [List.append_assoc] using h1
  have := key n 0 (by omega)
  simpa using this
theorem ask_then (L : Nat → Nat → Nat → Option Bool) (n : Nat) (p : Nat → Bool) (r : Bool) (hend : (∀ i, i < n → p i = true) → EvL (fun k j => L k j n) r)
    (hstep : ∀ i, i < n → ∀ rest, (p i = true → EvL (fun k j => L k j (i + 1)) rest) → EvL (fun k j => L k j i) (p i && rest)) : EvL (fun k j => L k j 0) ((List.range n).all p && r) := by
  have key : ∀ m i, i + m = n → (∀ q, q < i → p q = true) → EvL (fun k j => L k j i) ((List.range' i m).all p && r) := by
    intro m
    induction m with
    | zero => intro i hi ha; obtain rfl : i = n := by omega
              simpa using hend ha
    | succ m ih =>
      intro i hi ha
      rw [List.range'_succ, List.all_cons, Bool.and_assoc]
      refine hstep i (by omega) _ fun hp => ih (i + 1) (by omega) fun q hq => ?_
      by_cases hqi : q = i
      · rw [hqi]; exact hp
      · exact ha q (by omega)
  have := key n 0 (by omega) (fun q hq => by omega)
  rwa [← List.range_eq_range'] at this
theorem Ok3.eq_out {α : Type} {r : α} {L : Nat → Nat → Nat → Option α} (h : Ok3 L (fun b => b = r)) : EvL (fun k i => L k i k) r := by
  obtain ⟨b, hb, rfl⟩ := h.inn
  exact hb
theorem EvL.ok {α : Type} {r : α} {L : Nat → Nat → Option α} (h : EvL L r) : OkL L (fun b => b = r) := ⟨r, h, rfl⟩

/-! ### the node -/
abbrev Vw := Int × Int × List Ev7
abbrev Nd := Int × Bool × Int × Int × List La × List Ev7 × List Ou5 × Int × Int × List Vw × List Int × Int × Int
abbrev Kp := Int × Int × Int × Int × List St3 × List Ev7 × List Ou5
abbrev Bd := Kp × Bool × List (List Pa) × Int × List (Int × Vw) × List Int × Int × Int
abbrev dE7 : Ev7 := dflt t_impl_Event
abbrev dLa : La := dflt t_impl_Lane
abbrev dPa : Pa := dflt t_impl_Past
abbrev dVw : Vw := dflt t_impl_View
theorem evM_wf {x : Ev7} (h : evM x = true) : WfE x := by
  unfold evM inB at h
  simp only [Bool.and_eq_true, decide_eq_true_eq] at h
  have wf : ∀ n : Int, -1000 ≤ n → n ≤ 1000 → (Lit.int .i64 n).wf = true := fun n h1 h2 => by
    simp [Lit.wf, IntKind.min, IntKind.max, IntKind.signed, IntKind.bits]
    omega
  obtain ⟨⟨a, b⟩, ⟨c, d⟩, ⟨e, f⟩, ⟨g, i⟩, ⟨j, k⟩, ⟨l, m⟩, ⟨n, o⟩⟩ := h
  exact ⟨wf _ (by omega) (by omega), wf _ (by omega) (by omega), wf _ (by omega) (by omega), wf _ (by omega) (by omega), wf _ (by omega) (by omega), wf _ (by omega) (by omega), wf _ (by omega) (by omega)⟩
theorem listM_all {α : Type} {ok : α → Bool} {less : α → α → Bool} : ∀ {l : List α}, listM ok less l = true → ∀ x ∈ l, ok x = true := by
  intro l h x hx
  have hr := listM_range x ok less l
  rw [hr] at h
  obtain ⟨i, hi, he⟩ := List.mem_iff_getElem.1 hx
  have := List.all_eq_true.1 h i (List.mem_range.2 hi)
  unfold pairAt at this
  simp only [Bool.and_eq_true] at this
  rw [getD_eq _ _ _ hi, he] at this
  exact this.1
theorem eventsM_all {l : List Ev7} {n : Int} (h : eventsM l n = true) : (l.length : Int) ≤ n ∧ ∀ x ∈ l, WfE x := by
  unfold eventsM at h
  simp only [Bool.and_eq_true, decide_eq_true_eq] at h
  exact ⟨h.1, fun x hx => evM_wf (listM_all h.2 x hx)⟩
/-- What is in order of the events, each once. -/
noncomputable def sortM (l : List Ev7) : List Ev7 := open Classical in if h : ∃ s, Srt s ∧ ∀ y, y ∈ s ↔ y ∈ l then Classical.choose h else []
theorem sorts (l : List Ev7) (hl : l.length ≤ 1048576) (hw : ∀ x ∈ l, WfE x) : Ev (fun k => spec_EventSort k l) (sortM l) ∧ Ev (fun k => impl_EventSort k l) (sortM l) ∧ (sortM l).length ≤ l.length ∧ (∀ y, y ∈ sortM l ↔ y ∈ l) ∧ Srt (sortM l) := by
  obtain ⟨s, h1, h2, h3, h4, h5⟩ := eventSorts l hl hw
  have hex : ∃ s, Srt s ∧ ∀ y, y ∈ s ↔ y ∈ l := ⟨s, h3, h4⟩
  have he : sortM l = s := by
    unfold sortM
    rw [dif_pos hex]
    have := Classical.choose_spec hex
    exact strict_eq this.1 h3 fun y => (this.2 y).trans (h4 y).symm
  rw [he]
  exact ⟨h1, h2, h5, h4, h3⟩

/-! ### the processes of a node -/
def procsM (id : Int) : List Int := (List.range 4).flatMap fun (p : Nat) => if ((p : Int).tmod 3 == id) then [(p : Int)] else []
theorem procs_le (id : Int) : (procsM id).length ≤ 4 := by
  unfold procsM
  simp only [show List.range 4 = [0, 1, 2, 3] from rfl, List.flatMap_cons, List.flatMap_nil, List.length_append]
  have h : ∀ (c : Bool) (x : Int), (if c = true then [x] else []).length ≤ 1 := fun c x => by cases c <;> simp
  have h0 := h (((0 : Nat) : Int).tmod 3 == id) ((0 : Nat) : Int)
  have h1 := h (((1 : Nat) : Int).tmod 3 == id) ((1 : Nat) : Int)
  have h2 := h (((2 : Nat) : Int).tmod 3 == id) ((2 : Nat) : Int)
  have h3 := h (((3 : Nat) : Int).tmod 3 == id) ((3 : Nat) : Int)
  simp only [List.length_nil]
  omega
theorem specNodeOf (p : Nat) (h : p < 4) : Ev (fun k => spec_NodeOf k (p : Int)) ((p : Int).tmod 3) := by
  refine Ev.step (fun k => spec_NodeOf_eq k _) (Ev.bind (Ev.of 2 fun m => specProc m _) ?_)
  have : inB (p : Int) 0 3 = true := by unfold inB; simp; omega
  rw [this]
  exact Ev.now _
theorem implNodeOf (p : Nat) (h : p < 4) : Ev (fun k => impl_NodeOf k (p : Int)) ((p : Int).tmod 3) := by
  refine Ev.step (fun k => impl_NodeOf_eq k _) (Ev.bind (Ev.of 2 fun m => implProc m _) ?_)
  have : inB (p : Int) 0 3 = true := by unfold inB; simp; omega
  rw [this]
  exact Ev.now _
theorem implProcs (id : Int) : Ev (fun k => impl_procsOf k id) (procsM id) := by
  refine Ev.step (fun k => impl_procsOf_eq k id) (EvL.ev (L := fun k j => impl_procsOf_3 k j id 0 []) ?_)
  have hle := procs_le id
  refine acc_up (fun i acc => EvL (fun k j => impl_procsOf_3 k j id (i : Int) acc) (procsM id)) 4 (fun (p : Nat) => if ((p : Int).tmod 3 == id) then [(p : Int)] else []) [] ?_ fun i hi acc ha h => ?_
  · refine EvL.step (M := fun _ _ => some (procsM id)) (fun k j => ?_) (EvL.now _)
    rw [impl_procsOf_3_eq, decide_eq_false (by omega)]; rfl
  · have ha : acc.length + (if ((i : Int).tmod 3 == id) then [(i : Int)] else []).length ≤ 4 := Nat.le_trans ha (by rw [List.nil_append]; exact hle)
    refine EvL.step (fun k j => impl_procsOf_3_eq k j id _ acc) ?_
    have c0 : (i : Int) < 4 := by omega
    simp only [decide_eq_true c0, cond_true, w64n i (show i < 9223372036854775807 by omega)]
    refine EvL.bind (implNodeOf i hi) (EvL.cond (fun hb => ?_) fun hb => ?_)
    · rw [if_pos hb] at h ha
      have c5 : (acc.length + [(i : Int)].length) * 8 ≤ 140737488351232 := by simp only [List.length_singleton] at ha ⊢; omega
      simp only [decide_eq_true c5, cond_true]
      exact h
    · rw [if_neg (by rw [hb]; simp)] at h
      simpa using h
def lanesM (id : Int) : List La := (procsM id).map fun p => (p, (0, 0, 0), [])
theorem lanes_eq (id : Int) : lanesM id = (List.range 4).flatMap fun (p : Nat) => if ((p : Int).tmod 3 == id) then [((p : Int), ((0, 0, 0) : St3), ([] : List Pa))] else [] := by
  unfold lanesM procsM
  rw [List.map_flatMap]
  congr 1
  funext p
  split <;> rfl
theorem specLanes (id : Int) : Ev (fun k => spec_l22Lanes k id) (lanesM id) := by
  refine Ev.step (fun k => spec_l22Lanes_eq k id) (EvL.ev (L := fun k j => spec_l22Lanes_3 k j id 0 []) ?_)
  have hle : (lanesM id).length ≤ 4 := by unfold lanesM; rw [List.length_map]; exact procs_le id
  rw [lanes_eq] at hle ⊢
  refine acc_up (fun i acc => EvL (fun k j => spec_l22Lanes_3 k j id (i : Int) acc) _) 4 (fun (p : Nat) => if ((p : Int).tmod 3 == id) then [((p : Int), ((0, 0, 0) : St3), ([] : List Pa))] else []) [] ?_ fun i hi acc ha h => ?_
  · refine EvL.step (M := fun _ _ => some _) (fun k j => ?_) (EvL.now _)
    rw [spec_l22Lanes_3_eq, decide_eq_false (by omega)]; rfl
  · have ha : acc.length + (if ((i : Int).tmod 3 == id) then [((i : Int), ((0, 0, 0) : St3), ([] : List Pa))] else []).length ≤ 4 := Nat.le_trans ha (by rw [List.nil_append]; exact hle)
    refine EvL.step (fun k j => spec_l22Lanes_3_eq k j id _ acc) ?_
    have c0 : (i : Int) < 4 := by omega
    simp only [decide_eq_true c0, cond_true, w64n i (show i < 9223372036854775807 by omega)]
    refine EvL.bind (specNodeOf i hi) (EvL.cond (fun hb => ?_) fun hb => ?_)
    · rw [if_pos hb] at h ha
      have c5 : (acc.length + 1) * 56 ≤ 140737488351232 := by simp only [List.length_singleton] at ha; omega
      simp only [decide_eq_true c5, cond_true]
      exact h
    · rw [if_neg (by rw [hb]; simp)] at h
      simpa using h

/-! ### what was sent -/
def doneM (n : Nd) : List (List Pa) := n.2.2.2.2.1.map (·.2.2)
def sendsM (d : List Pa) : List Ev7 := d.flatMap (·.2.2.1)
def sentM (kept : List Ev7) (done : List (List Pa)) : List Ev7 := kept ++ done.flatMap sendsM
theorem flat_range {α β : Type} (l : List α) (d : α) (f : α → List β) : l.flatMap f = (List.range l.length).flatMap fun i => f (l.getD i d) := by
  induction l with
  | nil => rfl
  | cons x r ih =>
    rw [List.flatMap_cons, ih, List.length_cons, List.range_succ_eq_map, List.flatMap_cons, List.flatMap_map]
    rfl
theorem specSent (n : Nd) (h : (sentM n.2.2.2.2.2.1 (doneM n)).length ≤ 1048576) (hl : n.2.2.2.2.1.length ≤ 1048576) (hd : ∀ x ∈ n.2.2.2.2.1, x.2.2.length ≤ 1048576) : Ev (fun k => spec_l22Sent k n) (sentM n.2.2.2.2.2.1 (doneM n)) := by
  have hk : n.2.2.2.2.2.1.length ≤ 1048576 := by unfold sentM at h; rw [List.length_append] at h; omega
  refine Ev.step (fun k => spec_l22Sent_eq k n) ?_
  have c0 : (0 + List.length n.2.2.2.2.2.1) * 56 ≤ 140737488351232 := by omega
  simp only [decide_eq_true c0, cond_true, List.nil_append]
  refine EvL.ev (L := fun k j => spec_l22Sent_3 k j 0 n n.2.2.2.2.2.1) ?_
  have e0 : sentM n.2.2.2.2.2.1 (doneM n) = n.2.2.2.2.2.1 ++ (List.range n.2.2.2.2.1.length).flatMap fun i => sendsM (n.2.2.2.2.1.getD i dLa).2.2 := by
    unfold sentM doneM
    rw [List.flatMap_map, flat_range n.2.2.2.2.1 dLa]
  rw [e0] at h ⊢
  refine acc_up (fun i acc => EvL (fun k j => spec_l22Sent_3 k j (i : Int) n acc) _) n.2.2.2.2.1.length (fun i => sendsM (n.2.2.2.2.1.getD i dLa).2.2) n.2.2.2.2.2.1 ?_ fun i hi acc ha hrest => ?_
  · refine EvL.step (M := fun _ _ => some _) (fun k j => ?_) (EvL.now _)
    rw [spec_l22Sent_3_eq, decide_eq_false (by omega)]; rfl
  · have ha := Nat.le_trans ha h
    refine EvL.step (fun k j => spec_l22Sent_3_eq k j _ n acc) ?_
    have cc : (i : Int) < (n.2.2.2.2.1.length : Int) := by omega
    simp only [decide_eq_true cc, cond_true]
    refine Ok3.eq_out (L := fun k i0 j => spec_l22Sent_6 k i0 j (i : Int) 0 n acc) ?_
    have hdi := hd _ (getD_mem n.2.2.2.2.1 dLa i hi)
    have e1 : sendsM (n.2.2.2.2.1.getD i dLa).2.2 = (List.range (n.2.2.2.2.1.getD i dLa).2.2.length).flatMap fun m => ((n.2.2.2.2.1.getD i dLa).2.2.getD m dPa).2.2.1 := flat_range _ dPa _
    rw [e1] at hrest ha
    have c1 : (0 : Int) ≤ (i : Int) := by omega
    have c2 : (i : Int) < (n.2.2.2.2.1.length : Int) := by omega
    refine acc_up (fun m acc => Ok3 (fun k i0 j => spec_l22Sent_6 k i0 j (i : Int) (m : Int) n acc) (fun b => b = _)) (n.2.2.2.2.1.getD i dLa).2.2.length (fun m => ((n.2.2.2.2.1.getD i dLa).2.2.getD m dPa).2.2.1) acc ?_ fun m hm acc2 ha2 hrest2 => ?_
    · refine Ok3.step (M := fun k i0 _ => spec_l22Sent_3 k i0 ((i + 1 : Nat) : Int) n _) (fun k i0 j => ?_) (Ok3.out (EvL.ok hrest))
      rw [spec_l22Sent_6_eq]
      simp only [decide_eq_true c1, decide_eq_true c2, cond_true, Int.toNat_natCast, w64n i (by omega)]
      rw [decide_eq_false (show ¬ (((n.2.2.2.2.1.getD i dLa).2.2.length : Int) < ((n.2.2.2.2.1.getD i (dflt t_impl_Lane)).2.2.length : Int)) from Int.lt_irrefl _)]
      exact cond_false _ _
    · have ha2 := Nat.le_trans ha2 (by rw [List.length_append]; exact ha)
      have c3 : (m : Int) < ((n.2.2.2.2.1.getD i dLa).2.2.length : Int) := by omega
      have c4 : (0 : Int) ≤ (m : Int) := by omega
      have c5 : (acc2.length + ((n.2.2.2.2.1.getD i dLa).2.2.getD m dPa).2.2.1.length) * 56 ≤ 140737488351232 := by omega
      refine Ok3.step (fun k i0 j => ?_) hrest2
      rw [spec_l22Sent_6_eq]
      simp only [decide_eq_true c1, decide_eq_true c2, decide_eq_true c3, decide_eq_true c4, decide_eq_true c5, cond_true, Int.toNat_natCast, w64n m (by omega)]
theorem implClone (l : List Ev7) (h : l.length ≤ 1048576) : Ev (fun k => slices_Clone_impl_Event_impl_Event k l) l := by
  refine Ev.step (fun k => slices_Clone_impl_Event_impl_Event_eq k l) ?_
  have c1 : (0 + l.length) * 56 ≤ 140737488351232 := by omega
  simp only [decide_eq_true c1, cond_true]
  exact Ev.now _
theorem implSent (b : Bd) (h : (sentM b.1.2.2.2.2.2.1 b.2.2.1).length ≤ 1048576) (hl : b.2.2.1.length ≤ 1048576) (hd : ∀ x ∈ b.2.2.1, x.length ≤ 1048576) : Ev (fun k => impl_body_sent_h0 k b) (sentM b.1.2.2.2.2.2.1 b.2.2.1) := by
  refine Ev.step (fun k => impl_body_sent_h0_eq k b) (Ev.bind (implClone _ (by unfold sentM at h; rw [List.length_append] at h; omega)) ?_)
  refine EvL.ev (L := fun k j => impl_body_sent_h0_3 k j b.2.2.1 (b.2.2.1.length : Int) 0 b.1.2.2.2.2.2.1) ?_
  have e0 : sentM b.1.2.2.2.2.2.1 b.2.2.1 = b.1.2.2.2.2.2.1 ++ (List.range b.2.2.1.length).flatMap fun i => sendsM (b.2.2.1.getD i (dflt t_sl_impl_Past)) := by
    unfold sentM
    rw [flat_range b.2.2.1 (dflt t_sl_impl_Past)]
  rw [e0] at h ⊢
  refine acc_up (fun i acc => EvL (fun k j => impl_body_sent_h0_3 k j b.2.2.1 (b.2.2.1.length : Int) (i : Int) acc) _) b.2.2.1.length (fun i => sendsM (b.2.2.1.getD i (dflt t_sl_impl_Past))) b.1.2.2.2.2.2.1 ?_ fun i hi acc ha hrest => ?_
  · refine EvL.step (M := fun _ _ => some _) (fun k j => ?_) (EvL.now _)
    rw [impl_body_sent_h0_3_eq, decide_eq_false (by omega)]; rfl
  · have ha := Nat.le_trans ha h
    have c1 : (0 : Int) ≤ (i : Int) := by omega
    have c2 : (i : Int) < (b.2.2.1.length : Int) := by omega
    refine EvL.step (fun k j => impl_body_sent_h0_3_eq k j b.2.2.1 _ _ acc) ?_
    simp only [decide_eq_true c1, decide_eq_true c2, cond_true, Int.toNat_natCast]
    generalize hD : b.2.2.1.getD i (dflt t_sl_impl_Past) = D at *
    refine Ok3.eq_out (L := fun k i0 j => impl_body_sent_h0_6 k i0 j b.2.2.1 (b.2.2.1.length : Int) (i : Int) D (D.length : Int) 0 acc) ?_
    have hdi : D.length ≤ 1048576 := by rw [← hD]; exact hd _ (getD_mem _ _ i hi)
    have e1 : sendsM D = (List.range D.length).flatMap fun m => (D.getD m dPa).2.2.1 := flat_range _ dPa _
    rw [e1] at hrest ha
    refine acc_up (fun m acc => Ok3 (fun k i0 j => impl_body_sent_h0_6 k i0 j b.2.2.1 (b.2.2.1.length : Int) (i : Int) D (D.length : Int) (m : Int) acc) (fun b => b = _)) D.length (fun m => (D.getD m dPa).2.2.1) acc ?_ fun m hm acc2 ha2 hrest2 => ?_
    · refine Ok3.step (M := fun k i0 _ => impl_body_sent_h0_3 k i0 b.2.2.1 (b.2.2.1.length : Int) ((i + 1 : Nat) : Int) _) (fun k i0 j => ?_) (Ok3.out (EvL.ok hrest))
      rw [impl_body_sent_h0_6_eq, decide_eq_false (by omega), w64n i (by omega)]
      exact cond_false _ _
    · have ha2 := Nat.le_trans ha2 (by rw [List.length_append]; exact ha)
      have c3 : (m : Int) < (D.length : Int) := by omega
      have c4 : (0 : Int) ≤ (m : Int) := by omega
      have c5 : (acc2.length + (D.getD m dPa).2.2.1.length) * 56 ≤ 140737488351232 := by omega
      refine Ok3.step (fun k i0 j => ?_) hrest2
      rw [impl_body_sent_h0_6_eq]
      simp only [decide_eq_true c3, decide_eq_true c4, decide_eq_true c5, cond_true, Int.toNat_natCast, w64n m (by omega)]

/-! ### what has come -/
def otherM (id : Int) (views : List Vw) : List Ev7 := (List.range views.length).flatMap fun (i : Nat) => if (i : Int) != id then (views.getD i dVw).2.2 else []
def toP (proc g : Int) (e : Ev7) : Bool := e.2.1 == proc && decide (e.1 ≥ g)
noncomputable def comeM (n : Nd) (proc : Int) : List Ev7 := sortM ((sentM n.2.2.2.2.2.1 (doneM n) ++ otherM n.1 n.2.2.2.2.2.2.2.2.2.1).filter (toP proc n.2.2.2.1))
theorem filter_range {α : Type} (l : List α) (d : α) (p : α → Bool) : l.filter p = (List.range l.length).flatMap fun i => if p (l.getD i d) = true then [l.getD i d] else [] := by
  rw [← flat_range l d fun x => if p x = true then [x] else []]
  induction l with
  | nil => rfl
  | cons x r ih =>
    rw [List.flatMap_cons, List.filter_cons, ih]
    split <;> rfl
structure Fair (n : Nd) : Prop where
  lanes : n.2.2.2.2.1.length ≤ 1048576
  done : ∀ x ∈ n.2.2.2.2.1, x.2.2.length ≤ 1048576
  all : (sentM n.2.2.2.2.2.1 (doneM n) ++ otherM n.1 n.2.2.2.2.2.2.2.2.2.1).length ≤ 1048576
  wf : ∀ x ∈ sentM n.2.2.2.2.2.1 (doneM n) ++ otherM n.1 n.2.2.2.2.2.2.2.2.2.1, WfE x
  views : n.2.2.2.2.2.2.2.2.2.1.length = 3
theorem specCome9 (n : Nd) (proc : Int) (A : List Ev7) (hall : A.length ≤ 1048576) (hwf : ∀ x ∈ A, WfE x) : EvL (fun k j => spec_l22Came_9 k j proc 0 n A []) (sortM (A.filter (toP proc n.2.2.2.1))) := by
  have hf := filter_range A dE7 (toP proc n.2.2.2.1)
  have hfl : (A.filter (toP proc n.2.2.2.1)).length ≤ A.length := List.length_filter_le _ _
  refine acc_up (fun i acc => EvL (fun k j => spec_l22Came_9 k j proc (i : Int) n A acc) (sortM (A.filter (toP proc n.2.2.2.1)))) A.length (fun i => if toP proc n.2.2.2.1 (A.getD i dE7) = true then [A.getD i dE7] else []) [] ?_ fun i hi acc ha hrest => ?_
  · rw [List.nil_append, ← hf]
    refine EvL.step (fun k j => spec_l22Came_9_eq k j proc _ n A _) ?_
    have cn : ¬ ((A.length : Int) < (A.length : Int)) := by omega
    simp only [decide_eq_false cn, cond_false]
    exact Ev.L (Ev.bind (sorts _ (by omega) fun x hx => hwf x (List.mem_filter.1 hx).1).1 (Ev.now _))
  · rw [List.nil_append, ← hf] at ha
    have c1 : (i : Int) < (A.length : Int) := by omega
    have c2 : (0 : Int) ≤ (i : Int) := by omega
    refine EvL.step (fun k j => spec_l22Came_9_eq k j proc _ n A _) ?_
    simp only [decide_eq_true c1, decide_eq_true c2, cond_true, Int.toNat_natCast, decide_eq_true hi, w64n i (by omega)]
    by_cases ht : toP proc n.2.2.2.1 (A.getD i dE7) = true
    · rw [if_pos ht] at hrest ha
      unfold toP at ht
      simp only [Bool.and_eq_true] at ht
      have c5 : (acc.length + [((A.getD i dE7).1, (A.getD i dE7).2.1, (A.getD i dE7).2.2.1, (A.getD i dE7).2.2.2.1, (A.getD i dE7).2.2.2.2.1, (A.getD i dE7).2.2.2.2.2.1, (A.getD i dE7).2.2.2.2.2.2)].length) * 56 ≤ 140737488351232 := by simp only [List.length_singleton] at ha ⊢; omega
      simp only [ht.1, ht.2, cond_true, decide_eq_true c5]
      exact hrest
    · rw [if_neg ht, List.append_nil] at hrest
      unfold toP at ht
      cases h1 : ((A.getD i dE7).2.1 == proc) with
      | false => simp only [cond_false]; exact hrest
      | true =>
        rw [h1] at ht
        simp only [Bool.true_and, Bool.not_eq_true] at ht
        simp only [ht, cond_true, cond_false]; exact hrest
def otherAt (id : Int) (views : List Vw) (i : Nat) : List Ev7 := if (i : Int) != id then (views.getD i dVw).2.2 else []
theorem other_eq (id : Int) (views : List Vw) : otherM id views = (List.range views.length).flatMap (otherAt id views) := rfl
theorem come_eq (n : Nd) (proc : Int) : comeM n proc = sortM ((sentM n.2.2.2.2.2.1 (doneM n) ++ otherM n.1 n.2.2.2.2.2.2.2.2.2.1).filter (toP proc n.2.2.2.1)) := rfl
theorem specCome (n : Nd) (h : Fair n) (proc : Int) : Ev (fun k => spec_l22Came k n proc) (comeM n proc) := by
  have hall := h.all
  have hs : (sentM n.2.2.2.2.2.1 (doneM n)).length ≤ 1048576 := by rw [List.length_append] at hall; omega
  refine Ev.step (fun k => spec_l22Came_eq k n proc) (Ev.bind (specSent n hs h.lanes h.done) ?_)
  refine EvL.ev (L := fun k j => spec_l22Came_3 k j proc 0 n (sentM n.2.2.2.2.2.1 (doneM n))) ?_
  have hv := h.views
  refine acc_up (fun i acc => EvL (fun k j => spec_l22Came_3 k j proc (i : Int) n acc) (comeM n proc)) n.2.2.2.2.2.2.2.2.2.1.length (otherAt n.1 n.2.2.2.2.2.2.2.2.2.1) (sentM n.2.2.2.2.2.1 (doneM n)) ?_ fun i hi acc ha hrest => ?_
  · rw [← other_eq, come_eq]
    have key := Ev.L (EvL.ev (specCome9 n proc _ hall h.wf))
    revert key
    generalize sentM n.2.2.2.2.2.1 (doneM n) ++ otherM n.1 n.2.2.2.2.2.2.2.2.2.1 = A
    intro key
    refine EvL.step (fun k j => spec_l22Came_3_eq k j proc _ n _) ?_
    have cn : ¬ ((n.2.2.2.2.2.2.2.2.2.1.length : Int) < (n.2.2.2.2.2.2.2.2.2.1.length : Int)) := by omega
    simp only [decide_eq_false cn, cond_false]
    exact key
  · rw [← other_eq] at ha
    have ha := Nat.le_trans ha hall
    unfold otherAt at ha hrest
    have c1 : (i : Int) < (n.2.2.2.2.2.2.2.2.2.1.length : Int) := by omega
    have c2 : (0 : Int) ≤ (i : Int) := by omega
    have hw := w64n i (Nat.lt_of_lt_of_le hi (by rw [hv]; decide))
    cases hb : ((i : Int) != n.1) with
    | true =>
      rw [hb, if_pos rfl] at hrest ha
      have c5 : (acc.length + (n.2.2.2.2.2.2.2.2.2.1.getD i dVw).2.2.length) * 56 ≤ 140737488351232 := by omega
      refine EvL.step (fun k j => ?_) hrest
      rw [spec_l22Came_3_eq, decide_eq_true c1, cond_true, hb, cond_true, decide_eq_true c2, cond_true, cond_true, Int.toNat_natCast, decide_eq_true c5, cond_true, hw]
    | false =>
      rw [hb, if_neg (by simp), List.append_nil] at hrest
      refine EvL.step (fun k j => ?_) hrest
      rw [spec_l22Came_3_eq, decide_eq_true c1, cond_true, hb, cond_false, hw]
end Go.Proofs.YtjhldhlmckbapaaGreat.SFnExactHubOuts
