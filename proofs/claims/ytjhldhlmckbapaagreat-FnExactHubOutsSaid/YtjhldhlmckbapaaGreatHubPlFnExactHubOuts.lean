/- Whether a hub is ok: the reference's HubOk and the program's are one plain function. Hubs measured, carried over, compared. -/
import Derived.Test.YtjhldhlmckbapaaGreatWordPlFnExactHubOuts
set_option linter.unusedVariables false
set_option linter.unusedSimpArgs false
namespace Go.Proofs.YtjhldhlmckbapaaGreat.SFnExactHubOuts
open Go Go.Sx Go.Pl

abbrev Hu := Int × List Wo × List Wo × List Wo
def SmallWs (l : List Wo) : Prop := l.length ≤ 1048576 ∧ ∀ x ∈ l, SmallWo x
def SmallHu (x : Hu) : Prop := SmallWs x.2.1 ∧ SmallWs x.2.2.1 ∧ SmallWs x.2.2.2
def LongWs (l : List Wo) : Prop := l.length ≤ maxLen ∧ ∀ x ∈ l, LongWo x
def LongHu (x : Hu) : Prop := LongWs x.2.1 ∧ LongWs x.2.2.1 ∧ LongWs x.2.2.2
def lessW (x y : Wo) : Bool := decide (x.2.1 < y.2.1)
def wordsM (l : List Wo) (n : Int) : Bool := listM (fun x => wordM x && (x.1 == n)) lessW l
def fullM (x : Wo) : Bool := decide (x.2.2.2.2.2.2.2.1.length = 3) && decide (x.2.2.2.2.2.2.2.2.1.length = 3)
def keptM (l : List Wo) (n : Int) : Bool := wordsM l n && (!(n == 3) || l.all fullM)
def hubM (x : Hu) : Bool := inB x.1 0 9999 && (keptM x.2.1 3 && (keptM x.2.2.1 5 && keptM x.2.2.2 7))
theorem range_and (p q : Nat → Bool) (n : Nat) : (List.range n).all (fun i => p i && q i) = ((List.range n).all p && (List.range n).all q) := by
  induction (List.range n) with
  | nil => rfl
  | cons x r ih =>
    simp only [List.all_cons, ih]
    cases p x <;> cases q x <;> cases r.all p <;> cases r.all q <;> rfl
theorem keptM_range (l : List Wo) (n : Int) : keptM l n = (List.range l.length).all fun i => pairAt (α := Wo) (dflt t_impl_Word) (fun x => wordM x && (x.1 == n)) lessW l i && (!(n == 3) || fullM (l.getD i (dflt t_impl_Word))) := by
  unfold keptM wordsM
  rw [range_and, listM_range (α := Wo) (dflt t_impl_Word)]
  congr 1
  cases (n == 3) with
  | true => simp only [Bool.not_true, Bool.false_or]; exact (all_at l _ fullM).symm
  | false => simp
theorem fullEv (x : Wo) (n : Int) {M : Nat → Nat → Option Bool} {r : Bool} (h : EvL M r) : EvL (fun k j => cond (n == 3) (cond ((x.2.2.2.2.2.2.2.1.length : Int) != 3) (some false) (cond ((x.2.2.2.2.2.2.2.2.1.length : Int) != 3) (some false) (M k j))) (M k j)) ((!(n == 3) || fullM x) && r) := by
  cases hn : (n == 3) with
  | false => simp only [cond_false, Bool.not_false, Bool.true_or, Bool.true_and]; exact h
  | true =>
    simp only [cond_true, Bool.not_true, Bool.false_or, fullM, Bool.and_assoc]
    have e : ∀ m : Nat, (!((m : Int) != 3)) = decide (m = 3) := fun m => by
      by_cases hm : m = 3
      · subst hm; rfl
      · have : ((m : Int) != 3) = true := bne_iff_ne.2 (by omega)
        rw [this, decide_eq_false hm]; rfl
    rw [← e, ← e]
    exact EvL.andn fun _ => EvL.andn fun _ => h
theorem specKept (l : List Wo) (n : Int) (h : SmallWs l) : Ev (fun k => spec_l24Kept k l n) (keptM l n) := by
  have hl := h.1
  refine Ev.step (fun k => spec_l24Kept_eq k l n) ?_
  rw [keptM_range]
  refine EvL.ev (L := fun k j => spec_l24Kept_2 k j l n 0) ?_
  refine all_loop (fun k j i => spec_l24Kept_2 k j l n (i : Int)) l (dflt t_impl_Word) _ (fun k j => ?_) fun i hi rest hr => ?_
  · rw [spec_l24Kept_2_eq, decide_eq_false (by omega)]; rfl
  · have c1 : (i : Int) < (l.length : Int) := by omega
    have c2 : (0 : Int) ≤ (i : Int) := by omega
    refine EvL.step (fun k j => spec_l24Kept_2_eq k j l n (i : Int)) ?_
    simp only [decide_eq_true c1, decide_eq_true c2, cond_true, Int.toNat_natCast, w64n i (by omega), dec_gt]
    simp only [pairAt, Bool.and_assoc]
    refine EvL.and (specWord _ (h.2 _ (getD_mem l (dflt t_impl_Word) i hi))) fun _ => ?_
    have e : (((l.getD i (dflt t_impl_Word)).1 == n) : Bool) = !((l.getD i (dflt t_impl_Word)).1 != n) := by simp [bne]
    rw [e]
    refine EvL.andn fun _ => ?_
    by_cases h0 : 0 < i
    · have e1 : IntKind.i64.wrap ((i : Int) - 1) = ((i - 1 : Nat) : Int) := by rw [w64 (by omega) (by omega)]; omega
      have c4 : (0 : Int) ≤ ((i - 1 : Nat) : Int) := by omega
      have c5 : ((i - 1 : Nat) : Int) < (l.length : Int) := by omega
      simp only [decide_eq_true h0, cond_true, e1, decide_eq_true c4, decide_eq_true c5, Int.toNat_natCast, decide_eq_false (by omega : ¬ i = 0), Bool.false_or]
      have e2 : lessW (l.getD (i - 1) (dflt t_impl_Word)) (l.getD i (dflt t_impl_Word)) = !decide ((l.getD (i - 1) (dflt t_impl_Word)).2.1 ≥ (l.getD i (dflt t_impl_Word)).2.1) := by
        unfold lessW
        by_cases hh : (l.getD (i - 1) (dflt t_impl_Word)).2.1 < (l.getD i (dflt t_impl_Word)).2.1
        · rw [decide_eq_true hh, decide_eq_false (Int.not_le.2 hh)]; rfl
        · rw [decide_eq_false hh, decide_eq_true (Int.not_lt.1 hh)]; rfl
      rw [e2]
      exact EvL.andn fun _ => fullEv _ n hr
    · simp only [decide_eq_false h0, cond_false, decide_eq_true (by omega : i = 0), Bool.true_or, Bool.true_and]
      exact fullEv _ n hr
theorem implWords (l : List Wo) (n : Int) (h : SmallWs l) : Ev (fun k => impl_wordsOk k l n) (wordsM l n) := by
  have hl := h.1
  refine Ev.step (fun k => impl_wordsOk_eq k l n) ?_
  unfold wordsM
  rw [listM_range (α := Wo) (dflt t_impl_Word)]
  refine EvL.ev (L := fun k j => impl_wordsOk_2 k j l n l (l.length : Int) 0) ?_
  refine all_loop (fun k j i => impl_wordsOk_2 k j l n l (l.length : Int) (i : Int)) l (dflt t_impl_Word) _ (fun k j => ?_) fun i hi rest hr => ?_
  · rw [impl_wordsOk_2_eq, decide_eq_false (by omega)]; rfl
  · have c1 : (i : Int) < (l.length : Int) := by omega
    have c2 : (0 : Int) ≤ (i : Int) := by omega
    refine EvL.step (fun k j => impl_wordsOk_2_eq k j l n l (l.length : Int) (i : Int)) ?_
    simp only [decide_eq_true c1, decide_eq_true c2, cond_true, Int.toNat_natCast, w64n i (by omega), dec_gt]
    simp only [pairAt]
    have e : (((l.getD i (dflt t_impl_Word)).1 == n) : Bool) = !((l.getD i (dflt t_impl_Word)).1 != n) := by simp [bne]
    rw [e, Bool.and_comm (wordM _)]
    simp only [Bool.and_assoc]
    refine EvL.andn fun _ => EvL.and (implWord _ (h.2 _ (getD_mem l (dflt t_impl_Word) i hi))) fun _ => ?_
    by_cases h0 : 0 < i
    · have e1 : IntKind.i64.wrap ((i : Int) - 1) = ((i - 1 : Nat) : Int) := by rw [w64 (by omega) (by omega)]; omega
      have c4 : (0 : Int) ≤ ((i - 1 : Nat) : Int) := by omega
      have c5 : ((i - 1 : Nat) : Int) < (l.length : Int) := by omega
      simp only [decide_eq_true h0, cond_true, e1, decide_eq_true c4, decide_eq_true c5, Int.toNat_natCast, decide_eq_false (by omega : ¬ i = 0), Bool.false_or]
      have e2 : lessW (l.getD (i - 1) (dflt t_impl_Word)) (l.getD i (dflt t_impl_Word)) = !decide ((l.getD (i - 1) (dflt t_impl_Word)).2.1 ≥ (l.getD i (dflt t_impl_Word)).2.1) := by
        unfold lessW
        by_cases hh : (l.getD (i - 1) (dflt t_impl_Word)).2.1 < (l.getD i (dflt t_impl_Word)).2.1
        · rw [decide_eq_true hh, decide_eq_false (Int.not_le.2 hh)]; rfl
        · rw [decide_eq_false hh, decide_eq_true (Int.not_lt.1 hh)]; rfl
      rw [e2]
      exact EvL.andn fun _ => hr
    · simp only [decide_eq_false h0, cond_false, decide_eq_true (by omega : i = 0), Bool.true_or, Bool.true_and]
      exact hr
theorem implFull (k : Nat) (x : Wo) : impl_fullOne (k + 1) x = some (fullM x) := by
  rw [impl_fullOne_eq, cS, cA]
  unfold fullM
  have e : ∀ m : Nat, ((m : Int) == 3) = decide (m = 3) := fun m => by
    by_cases hm : m = 3
    · subst hm; rfl
    · have : ((m : Int) == 3) = false := beq_false_of_ne (by omega)
      rw [this, decide_eq_false hm]
  rw [e, e]
theorem implFulls (l : List Wo) (hl : l.length ≤ 1048576) : EvL (fun k j => impl_HubOk_6 k j l (l.length : Int) 0) (l.all fullM) := by
  rw [← all_at l (dflt t_impl_Word) fullM]
  refine all_loop (fun k j i => impl_HubOk_6 k j l (l.length : Int) (i : Int)) l (dflt t_impl_Word) _ (fun k j => ?_) fun i hi rest hr => ?_
  · rw [impl_HubOk_6_eq, decide_eq_false (by omega)]; rfl
  · have c1 : (i : Int) < (l.length : Int) := by omega
    have c2 : (0 : Int) ≤ (i : Int) := by omega
    refine EvL.step (fun k j => impl_HubOk_6_eq k j l (l.length : Int) (i : Int)) ?_
    simp only [decide_eq_true c1, decide_eq_true c2, cond_true, Int.toNat_natCast, w64n i (by omega)]
    exact EvL.and (Ev.of 1 fun m => implFull m _) fun _ => hr
theorem specHub (x : Hu) (h : SmallHu x) : Ev (fun k => spec_HubOk k x) (hubM x) := by
  refine Ev.step (fun k => spec_HubOk_eq k x) ?_
  exact Ev.bind (Ev.of 1 fun m => spec_l22Max_eq m) (Ev.and' (Ev.of 1 fun m => specIn m _ _ _) fun _ => Ev.and' (specKept _ _ h.1) fun _ => Ev.and' (specKept _ _ h.2.1) fun _ => Ev.bind (specKept _ _ h.2.2) (Ev.now _))
theorem implHub (x : Hu) (h : SmallHu x) : Ev (fun k => impl_HubOk k x) (hubM x) := by
  have e : hubM x = (inB x.1 0 9999 && (wordsM x.2.1 3 && (wordsM x.2.2.1 5 && (wordsM x.2.2.2 7 && x.2.1.all fullM)))) := by
    unfold hubM keptM
    simp only [show ((3 : Int) == 3) = true from rfl, show ((5 : Int) == 3) = false from rfl, show ((7 : Int) == 3) = false from rfl, Bool.not_true, Bool.not_false, Bool.false_or, Bool.true_or, Bool.and_true]
    cases inB x.1 0 9999 <;> cases wordsM x.2.1 3 <;> cases wordsM x.2.2.1 5 <;> cases wordsM x.2.2.2 7 <;> cases x.2.1.all fullM <;> rfl
  rw [e]
  refine Ev.step (fun k => impl_HubOk_eq k x) ?_
  exact Ev.and (Ev.of 1 fun m => implIn m _ _ _) fun _ => Ev.and (implWords _ _ h.1) fun _ => Ev.and (implWords _ _ h.2.1) fun _ => Ev.and (implWords _ _ h.2.2) fun _ => (implFulls _ h.1.1).ev

/-! ### measured, carried over, compared -/
theorem szWordS (l : List Wo) (c : Int) (h0 : 0 ≤ c) (h1 : c ≤ 1048576) (h : LongWs l) : ∃ r : Int, Ev (fun k => laws_szWordS k l c) r ∧ r ≤ 1048576 ∧ (0 ≤ r → SmallWs l) := by
  have hl := h.1
  by_cases hn : c - (l.length : Int) < 0
  · refine ⟨-1, Ev.step (fun k => laws_szWordS_eq k l c) ?_, by decide, fun h => absurd h (by decide)⟩
    rw [szW h0 h1 hl, decide_eq_true hn]; exact Ev.now _
  · have hend : ∀ k j c, laws_szWordS_5 k (j + 1) l c (l.length : Int) = some c := fun k j c => by
      rw [laws_szWordS_5_eq, decide_eq_false (by omega), cond_false]
    obtain ⟨r, h2, h3, h4⟩ := sz_loop (fun k j c i => laws_szWordS_5 k j l c (i : Int)) l (dflt t_laws_Word) SmallWo hend (fun i hi c h0 h1 => by
      have hm := h.2 _ (getD_mem l (dflt t_laws_Word) i hi)
      obtain ⟨r, h2, h3, h4⟩ := szWord (l.getD i (dflt t_laws_Word)) c h0 h1 hm
      refine ⟨fun k => laws_szWord k (l.getD i (dflt t_laws_Word)) c, r, h2, h3, h4, fun k j => ?_⟩
      have c1 : (i : Int) < (l.length : Int) := by omega
      have c2 : (0 : Int) ≤ (i : Int) := by omega
      have hb : i < 9223372036854775807 := by unfold maxLen at hl; omega
      rw [laws_szWordS_5_eq]
      simp only [decide_eq_true c1, decide_eq_true c2, cond_true, Int.toNat_natCast, w64n i hb]) (c - l.length) (by omega) (by omega)
    refine ⟨r, Ev.step (fun k => laws_szWordS_eq k l c) ?_, h3, fun h => ⟨by omega, h4 h⟩⟩
    rw [szW h0 h1 hl, decide_eq_false hn]
    simp only [cond_false]
    refine EvL.ev (L := fun k j => laws_szWordS_5 k j l (c - l.length) 0) ?_
    exact h2
theorem szHub (x : Hu) (c : Int) (h0 : 0 ≤ c) (h1 : c ≤ 1048576) (h : LongHu x) : ∃ r : Int, Ev (fun k => laws_szHub k x c) r ∧ r ≤ 1048576 ∧ (0 ≤ r → SmallHu x) := by
  obtain ⟨r1, b1, c1, d1⟩ := szWordS _ c h0 h1 h.1
  obtain ⟨r, e1, e2, e3⟩ := sz_and (q := SmallWs x.2.2.1 ∧ SmallWs x.2.2.2) (g := fun k t => (laws_szWordS k x.2.2.1 t).bind fun x1 => cond (decide (x1 < 0)) (some (-1)) ((laws_szWordS k x.2.2.2 x1).bind fun x2 => cond (decide (x2 < 0)) (some (-1)) (some x2))) b1 c1 d1 fun hr => by
    obtain ⟨r2, b2, c2, d2⟩ := szWordS x.2.2.1 r1 hr c1 h.2.1
    exact sz_and b2 c2 d2 fun hr2 => sz_end (szWordS x.2.2.2 r2 hr2 c2 h.2.2)
  exact ⟨r, Ev.step (fun k => laws_szHub_eq k x c) e1, e2, e3⟩
theorem toWordS (l : List Wo) (h : SmallWs l) : Ev (fun k => laws_toWordS k l) l := by
  have hl := h.1
  refine Ev.step (fun k => laws_toWordS_eq k l) ?_
  simp only [Int.le_refl, decide_true, cond_true, Int.toNat_natCast]
  rw [decide_eq_true (by omega)]
  simp only [cond_true]
  refine EvL.ev (L := fun k j => laws_toWordS_3 k j l 0 (List.replicate l.length (dflt t_impl_Word))) ?_
  refine (copy_loop (fun k j x i => laws_toWordS_3 k j l (i : Int) x) l (dflt t_laws_Word) (dflt t_impl_Word) id (fun k j x => ?_) fun i hi => ⟨fun k => laws_toWord k (l.getD i (dflt t_laws_Word)), toWord _ (h.2 _ (getD_mem _ _ _ hi)), fun k j x hx => ?_⟩).to (List.map_id l)
  · rw [laws_toWordS_3_eq, decide_eq_false (by omega)]; rfl
  · have c1 : (i : Int) < (l.length : Int) := by omega
    have c2 : (0 : Int) ≤ (i : Int) := by omega
    have c3 : (i : Int) < (x.length : Int) := by omega
    have c4 : i < x.length := by omega
    rw [laws_toWordS_3_eq]
    simp only [decide_eq_true c1, decide_eq_true c2, decide_eq_true c3, decide_eq_true c4, cond_true, Int.toNat_natCast, w64n i (by omega)]
theorem toHub (x : Hu) (h : SmallHu x) : Ev (fun k => laws_toHub k x) x := by
  refine Ev.step (fun k => laws_toHub_eq k x) ?_
  exact Ev.bind (toWordS _ h.1) (Ev.bind (toWordS _ h.2.1) (Ev.bind (toWordS _ h.2.2) (Ev.now _)))
instance decWs : DecidableEq (List Wo) := fun a b => inferInstance
instance decHu0 : DecidableEq (List Wo × List Wo × List Wo) := fun a b => inferInstance
instance decHu : DecidableEq Hu := fun a b => inferInstance
theorem eqWordS (l m : List Wo) (h : SmallWs l) : Ev (fun k => laws_eqWordS k l m) (decide (l = m)) := by
  have hb := h.1
  refine Ev.step (fun k => laws_eqWordS_eq k l m) (len_ne fun hl => ?_)
  refine EvL.ev (L := fun k j => laws_eqWordS_4 k j l m 0) ?_
  refine eq_loop (fun k j i => laws_eqWordS_4 k j l m (i : Int)) l m (dflt t_impl_Word) hl (fun k j => ?_) fun i hi => ⟨fun k => laws_eqWord k (l.getD i (dflt t_impl_Word)) (m.getD i (dflt t_impl_Word)), eqWord _ _ (h.2 _ (getD_mem _ _ _ hi)), fun k j => ?_⟩
  · rw [laws_eqWordS_4_eq, decide_eq_false (by omega)]; rfl
  · have c1 : (i : Int) < (l.length : Int) := by omega
    have c2 : (0 : Int) ≤ (i : Int) := by omega
    have c3 : (i : Int) < (m.length : Int) := by omega
    rw [laws_eqWordS_4_eq]
    simp only [decide_eq_true c1, decide_eq_true c2, decide_eq_true c3, cond_true, Int.toNat_natCast, w64n i (by omega)]
theorem eqHub (x y : Hu) (h : SmallHu x) : Ev (fun k => laws_eqHub k x y) (decide (x = y)) := by
  refine Ev.step (fun k => laws_eqHub_eq k x y) ?_
  refine ne_and (q := x.2 = y.2) (fun _ => ?_) Prod.ext_iff
  refine eq_and (q := x.2.2 = y.2.2) (eqWordS _ _ h.1) (fun _ => ?_) Prod.ext_iff
  refine eq_and (q := x.2.2.2 = y.2.2.2) (eqWordS _ _ h.2.1) (fun _ => ?_) Prod.ext_iff
  exact eq_and (q := True) (eqWordS _ _ h.2.2) (fun _ => eq_done trivial) (by simp)
end Go.Proofs.YtjhldhlmckbapaaGreat.SFnExactHubOuts
