/- Whether a node is ok: the reference's NodeOk and the program's are one plain function. -/
import Derived.Test.YtjhldhlmckbapaaGreatBodyPlFnExactHubOuts
set_option linter.unusedVariables false
set_option linter.unusedSimpArgs false
namespace Go.Proofs.YtjhldhlmckbapaaGreat.SFnExactHubOuts
open Go Go.Sx Go.Pl

abbrev dOx : Ou5 := dflt t_impl_Out
abbrev dIx : Int := dflt t_int
/-- What is small enough to be looked at. -/
structure SmallNd (n : Nd) : Prop where
  lanes : n.2.2.2.2.1.length ≤ 1048576
  lane : ∀ x ∈ n.2.2.2.2.1, SmallLa x
  kept : n.2.2.2.2.2.1.length ≤ 1048576
  outs : n.2.2.2.2.2.2.1.length ≤ 1048576
  views : n.2.2.2.2.2.2.2.2.2.1.length ≤ 1048576
  view : ∀ x ∈ n.2.2.2.2.2.2.2.2.2.1, x.2.2.length ≤ 1048576
  known : n.2.2.2.2.2.2.2.2.2.2.1.length ≤ 1048576

def viewM (v : Vw) : Bool := inB v.1 0 9999 && (inB v.2.1 0 9999 && eventsM v.2.2 100)
theorem specView (v : Vw) (h : v.2.2.length ≤ 1048576) : Ev (fun k => spec_l22ViewOk k v) (viewM v) := by
  refine Ev.step (fun k => spec_l22ViewOk_eq k v) (Ev.bind (Ev.of 1 fun m => spec_l22Max_eq m) (Ev.and' (Ev.of 1 fun m => specIn m _ _ _) fun _ => Ev.bind (Ev.of 1 fun m => spec_l22Max_eq m) (Ev.and' (Ev.of 1 fun m => specIn m _ _ _) fun _ => Ev.bind (Ev.of 1 fun m => spec_l2Most_eq m) (Ev.bind (specEvents_ev _ _ h) (Ev.now _)))))
def formAt (n : Nd) (i : Nat) : Bool := viewM (n.2.2.2.2.2.2.2.2.2.1.getD i dVw) && inB (n.2.2.2.2.2.2.2.2.2.2.1.getD i (dflt t_int)) 0 41
set_option maxRecDepth 20000 in
theorem specForms (n : Nd) (h : SmallNd n) : Ev (fun k => spec_l22Forms k n) (decide (n.2.2.2.2.2.2.2.2.2.1.length = 3) && (decide (n.2.2.2.2.2.2.2.2.2.2.1.length = 3) && (inB n.2.2.2.2.2.2.2.2.1 0 9999 && (inB n.2.2.2.2.2.2.2.2.2.2.2.1 0 9999 && (inB n.2.2.2.2.2.2.2.2.2.2.2.2 0 41 && ((List.range 3).all (formAt n) && true)))))) := by
  have hne : ∀ m : Nat, ((m : Int) != 3) = !decide (m = 3) := fun m => by by_cases h : m = 3 <;> simp [h]; omega
  refine Ev.step (fun k => spec_l22Forms_eq k n) ?_
  rw [hne, hne]
  refine (Ev.andn fun h1 => (Ev.andn fun h2 => Ev.bind (Ev.of 1 fun m => spec_l22Max_eq m) (Ev.and (Ev.of 1 fun m => specIn m _ _ _) fun _ => Ev.bind (Ev.of 1 fun m => spec_l22Max_eq m) (Ev.and (Ev.of 1 fun m => specIn m _ _ _) fun _ => Ev.and (Ev.of 1 fun m => specIn m _ _ _) fun _ => EvL.ev (L := fun k j => spec_l22Forms_4 k j 0 n) (r := (List.range 3).all (formAt n) && true) ?_)))).to ?_
  · have h1 : n.2.2.2.2.2.2.2.2.2.1.length = 3 := by simpa using h1
    have h2 : n.2.2.2.2.2.2.2.2.2.2.1.length = 3 := by simpa using h2
    refine ask_then (fun k j i => spec_l22Forms_4 k j (i : Int) n) 3 (formAt n) true (fun _ => ?_) fun i hi rest hrest => ?_
    · refine EvL.step (M := fun _ _ => some true) (fun k j => ?_) (EvL.now _)
      rw [spec_l22Forms_4_eq]; rfl
    · have c0 : (i : Int) < 3 := by omega
      have c1 : (i : Int) < (n.2.2.2.2.2.2.2.2.2.1.length : Int) := by omega
      have c2 : (0 : Int) ≤ (i : Int) := by omega
      have c3 : (i : Int) < (n.2.2.2.2.2.2.2.2.2.2.1.length : Int) := by omega
      refine EvL.step (fun k j => spec_l22Forms_4_eq k j _ n) ?_
      simp only [decide_eq_true c0, decide_eq_true c1, decide_eq_true c2, decide_eq_true c3, cond_true, Int.toNat_natCast, w64n i (by omega)]
      unfold formAt at hrest ⊢
      rw [Bool.and_assoc]
      exact EvL.and (specView _ (h.view _ (getD_mem _ _ _ (by omega)))) fun g1 => EvL.and (Ev.of 1 fun m => specIn m _ _ _) fun g2 => hrest (by rw [g1, g2]; rfl)
  · simp only [Bool.not_not]

/-! ### lanes, each at its place -/
def laneAt (n : Nd) (i : Nat) : Bool := laneM (n.2.2.2.2.1.getD i dLa) && decide ((n.2.2.2.2.1.getD i dLa).1 = (procsM n.1).getD i (dflt t_int))
noncomputable def agreeAt (n : Nd) (i : Nat) : Bool := !decide ((sameM (n.2.2.2.2.1.getD i dLa).2.2 (comeM n ((procsM n.1).getD i (dflt t_int)))) < (n.2.2.2.2.1.getD i dLa).2.2.length) && !decide ((comeM n ((procsM n.1).getD i (dflt t_int))).length > 100)
def outsIn (n : Nd) : Bool := n.2.2.2.2.2.2.1.all fun o => !decide (o.1 ≥ n.2.2.2.1)
def outLast (n : Nd) : Bool := decide (n.2.2.2.2.2.2.1.length = 0) || !decide ((n.2.2.2.2.2.2.1.getD (n.2.2.2.2.2.2.1.length - 1) dOx).1 ≥ n.2.2.2.1)
/-- Of such as are in order the last one's time is the greatest. -/
theorem outs_last (n : Nd) (h : outsM n.2.2.2.2.2.2.1 96 = true) : outLast n = outsIn n := by
  unfold outsM at h
  simp only [Bool.and_eq_true] at h
  unfold outLast outsIn
  generalize n.2.2.2.2.2.2.1 = l at *
  generalize n.2.2.2.1 = g
  have hle : ∀ x y : Ou5, lessO x y = true → x.1 ≤ y.1 := by
    intro x y hxy
    unfold lessO ouL lexM at hxy
    simp only [Bool.or_eq_true, decide_eq_true_eq, Bool.and_eq_true] at hxy
    rcases hxy with hxy | hxy <;> omega
  have key : ∀ (l : List Ou5), listM ouM lessO l = true → ∀ i j, i ≤ j → j < l.length → (l.getD i dOx).1 ≤ (l.getD j dOx).1 := by
    intro l hl i j hij hj
    rw [listM_range dOx] at hl
    obtain ⟨m, rfl⟩ : ∃ m, j = i + m := ⟨j - i, by omega⟩
    induction m with
    | zero => exact Int.le_refl _
    | succ m ih =>
      have h1 := ih (by omega) (by omega)
      have h2 := List.all_eq_true.1 hl (i + (m + 1)) (List.mem_range.2 hj)
      unfold pairAt at h2
      simp only [Bool.and_eq_true, Bool.or_eq_true, decide_eq_true_eq] at h2
      rcases h2.2 with h3 | h3
      · omega
      · have := hle _ _ h3
        rw [show i + (m + 1) - 1 = i + m from by omega] at this
        omega
  cases hl0 : l with
  | nil => rfl
  | cons y ys =>
    rw [← hl0]
    have hpos : 0 < l.length := by rw [hl0]; simp
    rw [decide_eq_false (by omega), Bool.false_or, Bool.eq_iff_iff]
    simp only [Bool.not_eq_true', decide_eq_false_iff_not, List.all_eq_true]
    constructor
    · intro hg o ho
      obtain ⟨i, hi, rfl⟩ := List.mem_iff_getElem.1 ho
      have := key l h.2 i (l.length - 1) (by omega) (by omega)
      rw [getD_eq l _ i hi] at this
      omega
    · intro hall
      exact hall _ (getD_mem l _ _ (by omega))

noncomputable def okTail (n : Nd) : Bool := decide (n.2.2.2.2.1.length = (procsM n.1).length) && ((List.range (procsM n.1).length).all (laneAt n) && ((List.range (procsM n.1).length).all (agreeAt n) && true))
def okForms (n : Nd) : Bool := decide (n.2.2.2.2.2.2.2.2.2.1.length = 3) && (decide (n.2.2.2.2.2.2.2.2.2.2.1.length = 3) && (inB n.2.2.2.2.2.2.2.2.1 0 9999 && (inB n.2.2.2.2.2.2.2.2.2.2.2.1 0 9999 && (inB n.2.2.2.2.2.2.2.2.2.2.2.2 0 41 && ((List.range 3).all (formAt n) && true)))))
noncomputable def nodeM (n : Nd) : Bool := inB n.1 0 2 && (inB n.2.2.1 1 9999 && (inB n.2.2.2.1 0 41 && (inB n.2.2.2.2.2.2.2.1 0 9999 && (eventsM n.2.2.2.2.2.1 100 && (outsM n.2.2.2.2.2.2.1 96 && (okForms n && (outLast n && okTail n)))))))
/-- What is ok in its parts is small. -/
theorem fair (n : Nd) (hk : eventsM n.2.2.2.2.2.1 100 = true) (hv : n.2.2.2.2.2.2.2.2.2.1.length = 3) (hf : ∀ i, i < 3 → formAt n i = true) (hl : n.2.2.2.2.1.length = (procsM n.1).length) (ha : ∀ i, i < (procsM n.1).length → laneAt n i = true) : Fair n := by
  have hp := procs_le n.1
  have hlane : ∀ x ∈ n.2.2.2.2.1, laneM x = true := by
    intro x hx
    obtain ⟨i, hi, rfl⟩ := List.mem_iff_getElem.1 hx
    have := ha i (by omega)
    unfold laneAt at this
    simp only [Bool.and_eq_true] at this
    rw [getD_eq _ _ _ hi] at this
    exact this.1
  have hparts : ∀ x ∈ n.2.2.2.2.1, x.2.2.length ≤ 100 ∧ ∀ y ∈ x.2.2, y.2.2.1.length ≤ 2 ∧ ∀ e ∈ y.2.2.1, WfE e := by
    intro x hx
    have := hlane x hx
    unfold laneM at this
    simp only [Bool.and_eq_true, Bool.not_eq_true', decide_eq_false_iff_not] at this
    refine ⟨by omega, fun y hy => ?_⟩
    have hy := listM_all this.2.2.2 y hy
    unfold pastM at hy
    simp only [Bool.and_eq_true] at hy
    have := eventsM_all hy.2.2.2.1
    exact ⟨by omega, this.2⟩
  have hview : ∀ i, i < 3 → (n.2.2.2.2.2.2.2.2.2.1.getD i dVw).2.2.length ≤ 100 ∧ ∀ e ∈ (n.2.2.2.2.2.2.2.2.2.1.getD i dVw).2.2, WfE e := by
    intro i hi
    have := hf i hi
    unfold formAt viewM at this
    simp only [Bool.and_eq_true] at this
    have := eventsM_all this.1.2.2
    exact ⟨by omega, this.2⟩
  have hke := eventsM_all hk
  have flen : ∀ {α β : Type} (l : List α) (f : α → List β) (b : Nat), (∀ x ∈ l, (f x).length ≤ b) → (l.flatMap f).length ≤ l.length * b := by
    intro α β l f b hb
    induction l with
    | nil => simp
    | cons x r ih =>
      rw [List.flatMap_cons, List.length_append, List.length_cons, Nat.succ_mul]
      have h1 := hb x List.mem_cons_self
      have h2 := ih fun y hy => hb y (List.mem_cons_of_mem _ hy)
      omega
  refine ⟨by omega, fun x hx => by have := (hparts x hx).1; omega, ?_, ?_, hv⟩
  · have h1 : ((doneM n).flatMap sendsM).length ≤ (doneM n).length * 200 := flen _ _ _ fun d hd => by
      obtain ⟨x, hx, rfl⟩ := List.mem_map.1 hd
      have := flen x.2.2 (fun p => p.2.2.1) 2 fun y hy => ((hparts x hx).2 y hy).1
      have h2 := (hparts x hx).1
      show (x.2.2.flatMap (·.2.2.1)).length ≤ 200
      omega
    have h2 : (otherM n.1 n.2.2.2.2.2.2.2.2.2.1).length ≤ (List.range n.2.2.2.2.2.2.2.2.2.1.length).length * 100 := flen _ _ _ fun i hi => by
      have hi := List.mem_range.1 hi
      split
      · exact (hview i (by omega)).1
      · simp
    have h3 : (doneM n).length = n.2.2.2.2.1.length := List.length_map _
    rw [List.length_range] at h2
    unfold sentM
    rw [List.length_append, List.length_append]
    omega
  · intro e he
    unfold sentM at he
    rcases List.mem_append.1 he with he | he
    · rcases List.mem_append.1 he with he | he
      · exact hke.2 e he
      · obtain ⟨d, hd, he⟩ := List.mem_flatMap.1 he
        obtain ⟨x, hx, rfl⟩ := List.mem_map.1 hd
        obtain ⟨y, hy, he⟩ := List.mem_flatMap.1 he
        exact ((hparts x hx).2 y hy).2 e he
    · obtain ⟨i, hi, he⟩ := List.mem_flatMap.1 he
      have hi := List.mem_range.1 hi
      split at he
      · exact (hview i (by omega)).2 e he
      · cases he
end Go.Proofs.YtjhldhlmckbapaaGreat.SFnExactHubOuts
