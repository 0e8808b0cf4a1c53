/- What a node keeps, as numbers: the reference's NodeKeep and the program's are one plain function. -/
import Derived.Test.YtkggdegpdmnjoaaGreatOkNdPlFnExactNodeKeep
set_option linter.unusedVariables false
set_option linter.unusedSimpArgs false
namespace Go.Proofs.YtkggdegpdmnjoaaGreat.SFnExactNodeKeep
open Go Go.Sx Go.Pl

abbrev dO5 : Ou5 := dflt t_impl_Out
def numsL (x : La) : List Int := [x.2.1.1, x.2.1.2.1, x.2.1.2.2]
def numsE (e : Ev7) : List Int := [e.1, e.2.1, e.2.2.1, e.2.2.2.1, e.2.2.2.2.1, e.2.2.2.2.2.1, e.2.2.2.2.2.2]
def numsO (o : Ou5) : List Int := [o.1, o.2.1, o.2.2.1, o.2.2.2.1, o.2.2.2.2]
def allOf {α : Type} (l : List α) (d : α) (f : α → List Int) : List Int := (List.range l.length).flatMap fun i => f (l.getD i d)
theorem flat_len {f : Nat → List Int} {c : Nat} (h : ∀ i, (f i).length = c) (n : Nat) : ((List.range n).flatMap f).length = c * n := by
  induction n with
  | zero => rfl
  | succ n ih => rw [List.range_succ, List.flatMap_append, List.length_append, ih]; simp [h, Nat.mul_add]
theorem allOf_len {α : Type} (l : List α) (d : α) (f : α → List Int) (c : Nat) (h : ∀ x, (f x).length = c) : (allOf l d f).length = c * l.length := flat_len (fun i => h _) _
def keep1 (n : Nd) : List Int := [n.1, n.2.2.1, n.2.2.2.1, n.2.2.2.2.2.2.2.1]
def keepA (n : Nd) (acc : List Int) : List Int := acc ++ allOf n.2.2.2.2.2.2.1 dO5 numsO
def keepB (n : Nd) (acc : List Int) : List Int := keepA n ((acc ++ allOf n.2.2.2.2.2.1 dE7 numsE) ++ [(n.2.2.2.2.2.2.1.length : Int)])
def keepNs (n : Nd) : List Int := keepB n ((keep1 n ++ allOf n.2.2.2.2.1 dLa numsL) ++ [(n.2.2.2.2.2.1.length : Int)])
theorem keepA_len (n : Nd) (acc : List Int) : (keepA n acc).length = acc.length + 5 * n.2.2.2.2.2.2.1.length := by
  unfold keepA
  rw [List.length_append, allOf_len _ _ _ 5 fun _ => rfl]
theorem keepB_len (n : Nd) (acc : List Int) : (keepB n acc).length = acc.length + 7 * n.2.2.2.2.2.1.length + 1 + 5 * n.2.2.2.2.2.2.1.length := by
  unfold keepB
  rw [keepA_len, List.length_append, List.length_append, allOf_len _ _ _ 7 fun _ => rfl]; rfl
theorem keepNs_len (n : Nd) (hs : SmallNd n) : (keepNs n).length ≤ 20000000 := by
  unfold keepNs
  rw [keepB_len, List.length_append, List.length_append, allOf_len _ _ _ 3 fun _ => rfl]
  have h1 := hs.lanes
  have h2 := hs.kept
  have h3 := hs.outs
  show 4 + 3 * n.2.2.2.2.1.length + 1 + 7 * n.2.2.2.2.2.1.length + 1 + 5 * n.2.2.2.2.2.2.1.length ≤ 20000000
  omega
theorem gather (P : Nat → List Int → Prop) {α : Type} (l : List α) (d : α) (f : α → List Int) (acc0 : List Int) (hb : (acc0 ++ allOf l d f).length ≤ 20000000) (hend : P l.length (acc0 ++ allOf l d f))
    (hstep : ∀ i, i < l.length → ∀ acc, acc.length + (f (l.getD i d)).length ≤ 20000000 → P (i + 1) (acc ++ f (l.getD i d)) → P i acc) : P 0 acc0 :=
  acc_up P l.length (fun i => f (l.getD i d)) acc0 hend fun i hi acc ha hr => hstep i hi acc (Nat.le_trans ha hb) hr
theorem c8 {n : Nat} (h : n ≤ 20000000) : n * 8 ≤ 140737488351232 := by omega
theorem specKeep16 (n : Nd) (hs : SmallNd n) (acc : List Int) (hb : (keepA n acc).length ≤ 20000000) : EvL (fun k j => spec_NodeKeep_16 k j 0 n acc) (keepA n acc) := by
  have h3 := hs.outs
  refine gather (fun i acc => EvL (fun k j => spec_NodeKeep_16 k j (i : Int) n acc) _) n.2.2.2.2.2.2.1 dO5 numsO acc hb ?_ fun i hi acc ha hrest => ?_
  · refine EvL.step (M := fun _ _ => some _) (fun k j => ?_) (EvL.now _)
    rw [spec_NodeKeep_16_eq, decide_eq_false (by omega), cond_false]; rfl
  · have c1 : (i : Int) < (n.2.2.2.2.2.2.1.length : Int) := by omega
    have c2 : (0 : Int) ≤ (i : Int) := by omega
    have st : Ev (fun k => spec_l26Out k (n.2.2.2.2.2.2.1.getD i (dflt t_impl_Out))) (numsO (n.2.2.2.2.2.2.1.getD i dO5)) := Ev.of 1 fun m => spec_l26Out_eq m _
    refine EvL.step (M := fun k j => (spec_l26Out k (n.2.2.2.2.2.2.1.getD i (dflt t_impl_Out))).bind fun x0 => cond (decide ((acc.length + List.length x0) * 8 ≤ 140737488351232)) (spec_NodeKeep_16 k j ((i + 1 : Nat) : Int) n (acc ++ x0)) none) (fun k j => ?_) (EvL.bind st ?_)
    · rw [spec_NodeKeep_16_eq, decide_eq_true c1, decide_eq_true c2, cond_true, cond_true, cond_true, Int.toNat_natCast, w64n i (by omega)]
    · exact EvL.congr (fun k j => by rw [decide_eq_true (c8 ha), cond_true]) hrest
theorem specKeep11 (n : Nd) (hs : SmallNd n) (acc : List Int) (hb : (keepB n acc).length ≤ 20000000) : EvL (fun k j => spec_NodeKeep_11 k j 0 n acc) (keepB n acc) := by
  have h3 := hs.kept
  have hb' := hb
  rw [keepB_len] at hb'
  refine gather (fun i acc => EvL (fun k j => spec_NodeKeep_11 k j (i : Int) n acc) _) n.2.2.2.2.2.1 dE7 numsE acc ?_ ?_ fun i hi acc ha hrest => ?_
  · rw [List.length_append, allOf_len _ _ _ 7 fun _ => rfl]; omega
  · have hl : (acc ++ allOf n.2.2.2.2.2.1 dE7 numsE).length + [(n.2.2.2.2.2.2.1.length : Int)].length ≤ 20000000 := by rw [List.length_append, allOf_len _ _ _ 7 fun _ => rfl]; simp only [List.length_singleton]; omega
    refine EvL.step (M := fun k _ => spec_NodeKeep_16 k k 0 n ((acc ++ allOf n.2.2.2.2.2.1 dE7 numsE) ++ [(n.2.2.2.2.2.2.1.length : Int)])) (fun k j => ?_) (Ev.L (EvL.ev (L := fun k j => spec_NodeKeep_16 k j 0 n ((acc ++ allOf n.2.2.2.2.2.1 dE7 numsE) ++ [(n.2.2.2.2.2.2.1.length : Int)])) (specKeep16 n hs _ hb)))
    rw [spec_NodeKeep_11_eq, decide_eq_false (by omega), cond_false, decide_eq_true (c8 hl), cond_true]
  · have c1 : (i : Int) < (n.2.2.2.2.2.1.length : Int) := by omega
    have c2 : (0 : Int) ≤ (i : Int) := by omega
    have st : Ev (fun k => spec_l26Event k (n.2.2.2.2.2.1.getD i (dflt t_impl_Event))) (numsE (n.2.2.2.2.2.1.getD i dE7)) := Ev.of 1 fun m => spec_l26Event_eq m _
    refine EvL.step (M := fun k j => (spec_l26Event k (n.2.2.2.2.2.1.getD i (dflt t_impl_Event))).bind fun x0 => cond (decide ((acc.length + List.length x0) * 8 ≤ 140737488351232)) (spec_NodeKeep_11 k j ((i + 1 : Nat) : Int) n (acc ++ x0)) none) (fun k j => ?_) (EvL.bind st ?_)
    · rw [spec_NodeKeep_11_eq, decide_eq_true c1, decide_eq_true c2, cond_true, cond_true, cond_true, Int.toNat_natCast, w64n i (by omega)]
    · exact EvL.congr (fun k j => by rw [decide_eq_true (c8 ha), cond_true]) hrest
theorem specKeep5 (n : Nd) (hs : SmallNd n) : EvL (fun k j => spec_NodeKeep_5 k j 0 n (keep1 n)) (keepNs n) := by
  have h3 := hs.lanes
  have hb := keepNs_len n hs
  have hb' := hb
  unfold keepNs at hb'
  rw [keepB_len, List.length_append] at hb'
  refine gather (fun i acc => EvL (fun k j => spec_NodeKeep_5 k j (i : Int) n acc) _) n.2.2.2.2.1 dLa numsL (keep1 n) ?_ ?_ fun i hi acc ha hrest => ?_
  · omega
  · have hl : (keep1 n ++ allOf n.2.2.2.2.1 dLa numsL).length + [(n.2.2.2.2.2.1.length : Int)].length ≤ 20000000 := by omega
    refine EvL.step (M := fun k _ => spec_NodeKeep_11 k k 0 n ((keep1 n ++ allOf n.2.2.2.2.1 dLa numsL) ++ [(n.2.2.2.2.2.1.length : Int)])) (fun k j => ?_) (Ev.L (EvL.ev (L := fun k j => spec_NodeKeep_11 k j 0 n ((keep1 n ++ allOf n.2.2.2.2.1 dLa numsL) ++ [(n.2.2.2.2.2.1.length : Int)])) (specKeep11 n hs _ hb)))
    rw [spec_NodeKeep_5_eq, decide_eq_false (by omega), cond_false, decide_eq_true (c8 hl), cond_true]
  · have c1 : (i : Int) < (n.2.2.2.2.1.length : Int) := by omega
    have c2 : (0 : Int) ≤ (i : Int) := by omega
    have hc := c8 ha
    refine EvL.step (fun k j => ?_) hrest
    rw [spec_NodeKeep_5_eq, decide_eq_true c1, decide_eq_true c2, cond_true, cond_true, cond_true, Int.toNat_natCast, w64n i (by omega)]
    unfold numsL at hc ⊢
    have hc : (acc.length + [(n.2.2.2.2.1.getD i (dflt t_impl_Lane)).2.1.1, (n.2.2.2.2.1.getD i (dflt t_impl_Lane)).2.1.2.1, (n.2.2.2.2.1.getD i (dflt t_impl_Lane)).2.1.2.2].length) * 8 ≤ 140737488351232 := hc
    rw [decide_eq_true hc]
    exact cond_true _ _
theorem implKeep18 (n : Nd) (hs : SmallNd n) (acc : List Int) (hb : (keepA n acc).length ≤ 20000000) : EvL (fun k j => impl_NodeKeep_18 k j n.2.2.2.2.2.2.1 (n.2.2.2.2.2.2.1.length : Int) 0 acc) (keepA n acc) := by
  have h3 := hs.outs
  refine gather (fun i acc => EvL (fun k j => impl_NodeKeep_18 k j n.2.2.2.2.2.2.1 (n.2.2.2.2.2.2.1.length : Int) (i : Int) acc) _) n.2.2.2.2.2.2.1 dO5 numsO acc hb ?_ fun i hi acc ha hrest => ?_
  · refine EvL.step (M := fun _ _ => some _) (fun k j => ?_) (EvL.now _)
    rw [impl_NodeKeep_18_eq, decide_eq_false (by omega), cond_false]; rfl
  · have c1 : (i : Int) < (n.2.2.2.2.2.2.1.length : Int) := by omega
    have c2 : (0 : Int) ≤ (i : Int) := by omega
    have hc := c8 ha
    refine EvL.step (fun k j => ?_) hrest
    rw [impl_NodeKeep_18_eq, decide_eq_true c1, decide_eq_true c2, cond_true, cond_true, cond_true, Int.toNat_natCast, w64n i (by omega)]
    unfold numsO at hc ⊢
    have hc : (acc.length + [(n.2.2.2.2.2.2.1.getD i (dflt t_impl_Out)).1, (n.2.2.2.2.2.2.1.getD i (dflt t_impl_Out)).2.1, (n.2.2.2.2.2.2.1.getD i (dflt t_impl_Out)).2.2.1, (n.2.2.2.2.2.2.1.getD i (dflt t_impl_Out)).2.2.2.1, (n.2.2.2.2.2.2.1.getD i (dflt t_impl_Out)).2.2.2.2].length) * 8 ≤ 140737488351232 := hc
    rw [decide_eq_true hc]
    exact cond_true _ _
theorem implKeep11 (n : Nd) (hs : SmallNd n) (acc : List Int) (hb : (keepB n acc).length ≤ 20000000) : EvL (fun k j => impl_NodeKeep_11 k j n.2.2.2.2.2.1 (n.2.2.2.2.2.1.length : Int) 0 n acc) (keepB n acc) := by
  have h3 := hs.kept
  have hb' := hb
  rw [keepB_len] at hb'
  refine gather (fun i acc => EvL (fun k j => impl_NodeKeep_11 k j n.2.2.2.2.2.1 (n.2.2.2.2.2.1.length : Int) (i : Int) n acc) _) n.2.2.2.2.2.1 dE7 numsE acc ?_ ?_ fun i hi acc ha hrest => ?_
  · rw [List.length_append, allOf_len _ _ _ 7 fun _ => rfl]; omega
  · have hl : (acc ++ allOf n.2.2.2.2.2.1 dE7 numsE).length + [(n.2.2.2.2.2.2.1.length : Int)].length ≤ 20000000 := by rw [List.length_append, allOf_len _ _ _ 7 fun _ => rfl]; simp only [List.length_singleton]; omega
    refine EvL.step (M := fun k _ => impl_NodeKeep_18 k k n.2.2.2.2.2.2.1 (n.2.2.2.2.2.2.1.length : Int) 0 ((acc ++ allOf n.2.2.2.2.2.1 dE7 numsE) ++ [(n.2.2.2.2.2.2.1.length : Int)])) (fun k j => ?_) (Ev.L (EvL.ev (L := fun k j => impl_NodeKeep_18 k j n.2.2.2.2.2.2.1 (n.2.2.2.2.2.2.1.length : Int) 0 ((acc ++ allOf n.2.2.2.2.2.1 dE7 numsE) ++ [(n.2.2.2.2.2.2.1.length : Int)])) (implKeep18 n hs _ hb)))
    rw [impl_NodeKeep_11_eq, decide_eq_false (by omega), cond_false, decide_eq_true (c8 hl), cond_true]
  · have c1 : (i : Int) < (n.2.2.2.2.2.1.length : Int) := by omega
    have c2 : (0 : Int) ≤ (i : Int) := by omega
    have st : Ev (fun k => impl_keyOf k (n.2.2.2.2.2.1.getD i (dflt t_impl_Event))) (n.2.2.2.2.2.1.getD i dE7) := Ev.of 1 fun m => impl_keyOf_eq m _
    refine EvL.step (M := fun k j => (impl_keyOf k (n.2.2.2.2.2.1.getD i (dflt t_impl_Event))).bind fun x0 => cond (decide ((acc.length + (numsE x0).length) * 8 ≤ 140737488351232)) (impl_NodeKeep_11 k j n.2.2.2.2.2.1 (n.2.2.2.2.2.1.length : Int) ((i + 1 : Nat) : Int) n (acc ++ numsE x0)) none) (fun k j => ?_) (EvL.bind st ?_)
    · rw [impl_NodeKeep_11_eq, decide_eq_true c1, decide_eq_true c2, cond_true, cond_true, cond_true, Int.toNat_natCast, w64n i (by omega)]
      rfl
    · exact EvL.congr (fun k j => by rw [decide_eq_true (c8 ha), cond_true]) hrest
theorem implKeep5 (n : Nd) (hs : SmallNd n) : EvL (fun k j => impl_NodeKeep_5 k j n.2.2.2.2.1 (n.2.2.2.2.1.length : Int) 0 n (keep1 n)) (keepNs n) := by
  have h3 := hs.lanes
  have hb := keepNs_len n hs
  have hb' := hb
  unfold keepNs at hb'
  rw [keepB_len, List.length_append] at hb'
  refine gather (fun i acc => EvL (fun k j => impl_NodeKeep_5 k j n.2.2.2.2.1 (n.2.2.2.2.1.length : Int) (i : Int) n acc) _) n.2.2.2.2.1 dLa numsL (keep1 n) ?_ ?_ fun i hi acc ha hrest => ?_
  · omega
  · have hl : (keep1 n ++ allOf n.2.2.2.2.1 dLa numsL).length + [(n.2.2.2.2.2.1.length : Int)].length ≤ 20000000 := by omega
    refine EvL.step (M := fun k _ => impl_NodeKeep_11 k k n.2.2.2.2.2.1 (n.2.2.2.2.2.1.length : Int) 0 n ((keep1 n ++ allOf n.2.2.2.2.1 dLa numsL) ++ [(n.2.2.2.2.2.1.length : Int)])) (fun k j => ?_) (Ev.L (EvL.ev (L := fun k j => impl_NodeKeep_11 k j n.2.2.2.2.2.1 (n.2.2.2.2.2.1.length : Int) 0 n ((keep1 n ++ allOf n.2.2.2.2.1 dLa numsL) ++ [(n.2.2.2.2.2.1.length : Int)])) (implKeep11 n hs _ hb)))
    rw [impl_NodeKeep_5_eq, decide_eq_false (by omega), cond_false, decide_eq_true (c8 hl), cond_true]
  · have c1 : (i : Int) < (n.2.2.2.2.1.length : Int) := by omega
    have c2 : (0 : Int) ≤ (i : Int) := by omega
    have hc := c8 ha
    refine EvL.step (fun k j => ?_) hrest
    rw [impl_NodeKeep_5_eq, decide_eq_true c1, decide_eq_true c2, cond_true, cond_true, cond_true, Int.toNat_natCast, w64n i (by omega)]
    unfold numsL at hc ⊢
    have hc : (acc.length + [(n.2.2.2.2.1.getD i (dflt t_impl_Lane)).2.1.1, (n.2.2.2.2.1.getD i (dflt t_impl_Lane)).2.1.2.1, (n.2.2.2.2.1.getD i (dflt t_impl_Lane)).2.1.2.2].length) * 8 ≤ 140737488351232 := hc
    rw [decide_eq_true hc]
    exact cond_true _ _
theorem eqIntW (l m : List Int) (h : l.length ≤ 100000000) : Ev (fun k => laws_eqIntS k l m) (decide (l = m)) := by
  refine Ev.step (fun k => laws_eqIntS_eq k l m) (len_ne fun hl => ?_)
  refine EvL.ev (L := fun k j => laws_eqIntS_4 k j l m 0) ?_
  refine eq_loop (fun k j i => laws_eqIntS_4 k j l m (i : Int)) l m (dflt t_int) hl (fun k j => ?_) fun i hi => ⟨fun k => some (decide (l.getD i (dflt t_int) = m.getD i (dflt t_int))), Ev.now _, fun k j => ?_⟩
  · rw [laws_eqIntS_4_eq, decide_eq_false (by omega)]; rfl
  · have c1 : (i : Int) < (l.length : Int) := by omega
    have c2 : (0 : Int) ≤ (i : Int) := by omega
    have c3 : (i : Int) < (m.length : Int) := by omega
    rw [laws_eqIntS_4_eq]
    simp only [decide_eq_true c1, decide_eq_true c2, decide_eq_true c3, cond_true, Int.toNat_natCast, w64n i (by omega), Option.bind_some]
    generalize l.getD i (dflt t_int) = a
    generalize m.getD i (dflt t_int) = b
    by_cases hab : a = b
    · subst hab; simp
    · have : (a != b) = true := bne_iff_ne.2 hab
      simp [this, hab]
theorem eqIntL (l : List Int) (h : l.length ≤ 100000000) : Ev (fun k => laws_eqIntS k l l) true := (eqIntW l l h).to (by simp)
noncomputable def keptM (n : Nd) : List Int := if nodeM n = true then keepNs n else []
theorem keptM_len (n : Nd) (hs : SmallNd n) : (keptM n).length ≤ 20000000 := by
  unfold keptM
  split
  · exact keepNs_len n hs
  · simp
theorem specNodeKeep (n : Nd) (hs : SmallNd n) : Ev (fun k => spec_NodeKeep k n) (keptM n) := by
  unfold keptM
  refine Ev.step (fun k => spec_NodeKeep_eq k n) (Ev.bind (specNd n hs) (Ev.cond (fun h0 => (Ev.now _).to ?_) fun h0 => ?_))
  · rw [if_neg (by rw [nt h0]; simp)]
  · rw [if_pos (nf h0)]
    exact EvL.ev (L := fun k j => spec_NodeKeep_5 k j 0 n (keep1 n)) (specKeep5 n hs)
theorem implNodeKeep (n : Nd) (hs : SmallNd n) : Ev (fun k => impl_NodeKeep k n) (keptM n) := by
  unfold keptM
  refine Ev.step (fun k => impl_NodeKeep_eq k n) (Ev.bind (implNd n hs) (Ev.cond (fun h0 => (Ev.now _).to ?_) fun h0 => ?_))
  · rw [if_neg (by rw [nt h0]; simp)]
  · rw [if_pos (nf h0)]
    exact EvL.ev (L := fun k j => impl_NodeKeep_5 k j n.2.2.2.2.1 (n.2.2.2.2.1.length : Int) 0 n (keep1 n)) (implKeep5 n hs)
end Go.Proofs.YtkggdegpdmnjoaaGreat.SFnExactNodeKeep
