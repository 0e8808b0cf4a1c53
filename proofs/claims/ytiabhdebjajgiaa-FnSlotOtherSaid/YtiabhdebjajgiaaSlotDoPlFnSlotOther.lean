/- What a disk is behind writes: the reference's SlotDo and the program's are one plain function. Steps measured, carried over, compared, marked; rows of rows marked and read back. -/
import Derived.Test.YtiabhdebjajgiaaSlotPlFnSlotOther
import Derived.Test.YtiabhdebjajgiaaMarkIPlFnSlotOther
set_option linter.unusedVariables false
set_option linter.unusedSimpArgs false
namespace Go.Proofs.Ytiabhdebjajgiaa.SFnSlotOther
open Go Go.Sx Go.Pl

abbrev Stp := Bool × Int × Int × Int × List Int
theorem at_mid {α : Type} (a : List α) (x d : α) (b : List α) : (a ++ x :: b).getD a.length d = x := by
  rw [List.getD_eq_getElem?_getD, List.getElem?_append_right (Nat.le_refl _)]; simp
theorem modify_mid {α : Type} (f : α → α) (a : List α) (x : α) (b : List α) : (a ++ x :: b).modify a.length f = a ++ f x :: b := by
  induction a with
  | nil => rfl
  | cons y a ih => simp [ih]

/-! ### rows of rows, marked and read back -/
def mkSS (m : Int) : List (List Int) → List (List Int)
  | [] => []
  | x :: l => mkNs m x.length :: mkSS (m + (x.length : Int)) l
theorem sum_cons (x : List Int) (l : List (List Int)) : (sumN List.length (x :: l) : Int) = (x.length : Int) + (sumN List.length l : Int) := by
  have : sumN List.length (x :: l) = x.length + sumN List.length l := by unfold sumN; rw [List.map_cons, List.sum_cons]
  omega
/-! ### steps measured, carried over, compared, marked -/
def lenSt (e : Stp) : Nat := e.2.2.2.2.length
def wSts (l : List Stp) : Nat := l.length + sumN lenSt l
def LongSts (l : List Stp) : Prop := l.length ≤ maxLen ∧ ∀ e ∈ l, e.2.2.2.2.length ≤ maxLen
def SmallSts (l : List Stp) : Prop := l.length ≤ 1048576 ∧ ∀ e ∈ l, e.2.2.2.2.length ≤ 1048576
theorem small_sts (l : List Stp) (h : wSts l ≤ 1048576) : SmallSts l := by
  unfold wSts at h
  exact ⟨by omega, fun x hx => by have := mem_sum lenSt l x hx; have e : lenSt x = x.2.2.2.2.length := rfl; omega⟩
def cntSt (e : Stp) : Nat := 4 + e.2.2.2.2.length
theorem cntSts_bound (l : List Stp) : sumN cntSt l ≤ 4 * wSts l := by
  have hp : ∀ x : Stp, cntSt x ≤ 4 + 1 * lenSt x := fun x => by unfold cntSt lenSt; omega
  have h1 := sumN_add hp l
  unfold wSts
  omega

/-! ### one write -/
def setM (s : Sl) (e : Stp) : Sl := if e.2.1 = -1 then (e.2.2.1, e.2.2.2.1, s.2.2) else (s.1, s.2.1, s.2.2.set e.2.1.toNat e.2.2.2.2)
def tryM (d : Dk) (e : Stp) : Dk := if e.1 = true then (d.1, setM d.2 e) else (setM d.1 e, d.2)
def doM (d : Dk) (e : Stp) : Dk := if inB e.2.1 (-1) 159 = true then (if diskM (tryM d e) = true then tryM d e else d) else d
def runM (most : Int) : Nat → List Stp → Dk → Dk
  | _, [], d => d
  | i, e :: l, d => if decide ((i : Int) < most) = true then runM most (i + 1) l (doM d e) else d
theorem disk_slots {d : Dk} (h : diskM d = true) : slotM d.1 = true ∧ slotM d.2 = true := by
  unfold diskM at h
  simp only [Bool.and_eq_true] at h
  exact ⟨h.1, h.2.1⟩
theorem disk_small {d : Dk} (h : diskM d = true) : SmallDk d := ⟨(okSl _ (disk_slots h).1).small, (okSl _ (disk_slots h).2).small⟩
theorem slot_160 {s : Sl} (h : slotM s = true) : s.2.2.length = 160 := by
  unfold slotM at h
  simp only [Bool.and_eq_true, decide_eq_true_eq] at h
  exact h.2.1
theorem flat_sum (l : List (List Int)) : l.flatten.length = sumN List.length l := by
  unfold sumN
  rw [List.length_flatten]
theorem set_small {l : List (List Int)} (h : SmallSs l) (n : Nat) {x : List Int} (hx : x.length ≤ 1048576) : SmallSs (l.set n x) := by
  refine ⟨by rw [List.length_set]; exact h.1, fun y hy => ?_⟩
  rcases List.mem_or_eq_of_mem_set hy with hy | rfl
  · exact h.2 y hy
  · exact hx
theorem setM_small {s : Sl} (h : SmallSs s.2.2) {e : Stp} (he : e.2.2.2.2.length ≤ 1048576) : SmallSs (setM s e).2.2 := by
  unfold setM
  split
  · exact h
  · exact set_small h _ he
theorem tryM_small {d : Dk} (h : SmallDk d) {e : Stp} (he : e.2.2.2.2.length ≤ 1048576) : SmallDk (tryM d e) := by
  unfold tryM
  split
  · exact ⟨h.1, setM_small h.2 he⟩
  · exact ⟨setM_small h.1 he, h.2⟩
theorem doM_ok {d : Dk} (h : diskM d = true) (e : Stp) : diskM (doM d e) = true := by
  unfold doM
  split
  · split
    · rename_i h2; exact h2
    · exact h
  · exact h
theorem runM_ok (most : Int) (l : List Stp) : ∀ (i : Nat) (d : Dk), diskM d = true → diskM (runM most i l d) = true := by
  induction l with
  | nil => intro i d h; exact h
  | cons e l ih =>
    intro i d h
    unfold runM
    split
    · exact ih _ _ (doM_ok h e)
    · exact h

/-! ### the reference -/
theorem specCopySL (s : Sl) (l : List (List Int)) : ∀ (pre acc : List (List Int)), s.2.2 = pre ++ l → s.2.2.length ≤ 1048576 → acc.length + l.length ≤ 1048576 → (∀ x ∈ l, x.length ≤ 1048576) →
    EvL (fun k j => spec_l31Copy_3 k j (pre.length : Int) s 0 0 s.1 s.2.1 [] acc) (s.1, s.2.1, acc ++ l) := by
  induction l with
  | nil =>
    intro pre acc hx hn ha hf
    have e : (pre.length : Int) = (s.2.2.length : Int) := by rw [hx]; simp
    refine (EvL.step (M := fun _ _ => some (s.1, s.2.1, acc)) (fun k j => ?_) (EvL.now _)).to (by simp)
    rw [spec_l31Copy_3_eq, decide_eq_false (by omega), cond_false]
  | cons x l ih =>
    intro pre acc hx hn ha hf
    have hsx := hf x (List.mem_cons_self ..)
    rw [List.length_cons] at ha
    have hlen : s.2.2.length = pre.length + (l.length + 1) := by rw [hx]; simp
    have c1 : (pre.length : Int) < (s.2.2.length : Int) := by omega
    have c2 : (0 : Int) ≤ (pre.length : Int) := by omega
    have hg : s.2.2.getD pre.length (dflt t_sl_int) = x := by rw [hx]; exact at_mid pre x _ l
    have c3 : (0 + x.length) * 8 ≤ 140737488351232 := by omega
    have c4 : (acc.length + 1) * 24 ≤ 140737488351232 := by omega
    have := ih (pre ++ [x]) (acc ++ [x]) (by rw [hx, List.append_assoc]; rfl) hn (by rw [List.length_append, List.length_singleton]; omega) fun z hz => hf z (List.mem_cons_of_mem _ hz)
    rw [List.length_append, List.length_singleton, List.append_assoc] at this
    refine EvL.step (fun k j => ?_) this
    rw [spec_l31Copy_3_eq]
    simp only [decide_eq_true c1, decide_eq_true c2, cond_true, Int.toNat_natCast, hg, decide_eq_true c3, decide_eq_true c4, w64n pre.length (by omega), List.nil_append]
theorem specCopyS (s : Sl) (h : SmallSs s.2.2) : Ev (fun k => spec_l31Copy k s) s :=
  Ev.step (fun k => spec_l31Copy_eq k s) (EvL.ev (L := fun k j => spec_l31Copy_3 k j 0 s 0 0 s.1 s.2.1 [] []) (specCopySL s s.2.2 [] [] rfl h.1 (by simpa using h.1) h.2))
/-- What the reference does to a slot: where there is no such sector, nothing. -/
def stepR (s : Sl) (e : Stp) : Sl := if inB e.2.1 (-1) 159 = true then setM s e else s
theorem specStep (s : Sl) (h160 : s.2.2.length = 160) (e : Stp) (he : e.2.2.2.2.length ≤ 1048576) : Ev (fun k => spec_l31Step_h0 k s.1 s.2.1 e s.2.2) (stepR s e) := by
  unfold stepR setM inB
  refine Ev.step (fun k => spec_l31Step_h0_eq k s.1 s.2.1 e s.2.2) (Ev.cond (fun h => (Ev.now _).to ?_) fun h => ?_)
  · have h : e.2.1 = -1 := by simpa using h
    rw [h]; rfl
  · have h : ¬ e.2.1 = -1 := by simpa using h
    have e1 : IntKind.i64.wrap ((s.2.2.length : Int) - 1) = 159 := by rw [h160, w64 (by omega) (by omega)]; rfl
    rw [e1]
    refine Ev.bind (Ev.of 1 fun m => specIn m _ _ _) (Ev.cond (fun hi => ?_) fun hi => (Ev.now _).to ?_)
    · unfold inB at hi
      simp only [Bool.and_eq_true, decide_eq_true_eq] at hi
      have c1 : (0 + e.2.2.2.2.length) * 8 ≤ 140737488351232 := by omega
      have c2 : e.2.1 < (s.2.2.length : Int) := by omega
      have c3 : e.2.1.toNat < s.2.2.length := by omega
      rw [decide_eq_true c1, decide_eq_true hi.1, decide_eq_true c2, decide_eq_true c3]
      refine (Ev.now _).to ?_
      rw [if_pos (by simp; omega), if_neg h]
      rfl
    · unfold inB at hi
      rw [if_neg (by simp at hi ⊢; omega)]
theorem try_step {d : Dk} (e : Stp) : (if e.1 = true then (d.1, stepR d.2 e) else (stepR d.1 e, d.2)) = if inB e.2.1 (-1) 159 = true then tryM d e else d := by
  unfold stepR tryM
  by_cases h : inB e.2.1 (-1) 159 = true
  · rw [if_pos h, if_pos h, if_pos h]
  · rw [if_neg h, if_neg h, if_neg h]; split <;> rfl
theorem specDoL (most : Int) (steps : List Stp) (hst : SmallSts steps) (l : List Stp) : ∀ (pre : List Stp) (d : Dk), steps = pre ++ l → diskM d = true →
    EvL (fun k j => spec_SlotDo_5 k j steps most (pre.length : Int) 0 0 0 0 d.1.1 d.1.2.1 d.2.1 d.2.2.1 [] [] d.1.2.2 d.2.2.2) (runM most pre.length l d) := by
  have hl := hst.1
  induction l with
  | nil =>
    intro pre d hx hd
    have e : pre.length = steps.length := by rw [hx]; simp
    refine EvL.step (M := fun _ _ => some d) (fun k j => ?_) (EvL.now _)
    rw [spec_SlotDo_5_eq, decide_eq_false (by omega), cond_false]
  | cons e l ih =>
    intro pre d hx hd
    have hlen : steps.length = pre.length + (l.length + 1) := by rw [hx]; simp
    have c1 : (pre.length : Int) < (steps.length : Int) := by omega
    have c2 : (0 : Int) ≤ (pre.length : Int) := by omega
    have hg : steps.getD pre.length (dflt t_impl_SlotStep) = e := by rw [hx]; exact at_mid pre e _ l
    have he : e.2.2.2.2.length ≤ 1048576 := hst.2 e (by rw [hx]; exact List.mem_append_right _ (List.mem_cons_self ..))
    have hs := disk_small hd
    have h1 := disk_slots hd
    unfold runM
    refine EvL.step (fun k j => spec_SlotDo_5_eq k j steps most (pre.length : Int) 0 0 0 0 d.1.1 d.1.2.1 d.2.1 d.2.2.1 [] [] d.1.2.2 d.2.2.2) ?_
    simp only [decide_eq_true c1, decide_eq_true c2, cond_true, Int.toNat_natCast, hg, w64n pre.length (by omega)]
    by_cases hm : (pre.length : Int) < most
    · rw [if_pos (decide_eq_true hm), decide_eq_true hm]
      simp only [cond_true]
      refine EvL.bind (specCopyS d.1 hs.1) (EvL.bind (specCopyS d.2 hs.2) ?_)
      have go : ∀ x : Dk, x = (if inB e.2.1 (-1) 159 = true then tryM d e else d) → (diskM x = true → x = doM d e) ∧ (diskM x = false → d = doM d e) := by
        rintro x rfl
        unfold doM
        by_cases hin : inB e.2.1 (-1) 159 = true
        · rw [if_pos hin, if_pos hin]
          exact ⟨fun h => by rw [if_pos h], fun h => by rw [if_neg (by rw [h]; simp)]⟩
        · rw [if_neg hin, if_neg hin]
          exact ⟨fun _ => rfl, fun _ => rfl⟩
      have next := ih (pre ++ [e]) (doM d e) (by rw [hx, List.append_assoc]; rfl) (doM_ok hd e)
      rw [List.length_append, List.length_singleton] at next
      have hsm : ∀ x : Dk, x = (if inB e.2.1 (-1) 159 = true then tryM d e else d) → SmallDk x := by
        rintro x rfl
        split
        · exact tryM_small hs he
        · exact hs
      refine EvL.cond (fun hb => ?_) fun hb => ?_
      · refine EvL.bind (specStep d.2 (slot_160 h1.2) e he) ?_
        have hx2 : ((d.1, stepR d.2 e) : Dk) = (if inB e.2.1 (-1) 159 = true then tryM d e else d) := by rw [← try_step, if_pos hb]
        refine EvL.bind (specDisk (d.1, stepR d.2 e) (hsm _ hx2)) (EvL.cond (fun hq => ?_) fun hq => ?_)
        · have e9 := (go _ hx2).1 hq
          rw [← e9] at next ⊢
          exact next
        · have e9 := (go _ hx2).2 hq
          rw [← e9] at next ⊢
          exact next
      · have hb' : ¬ e.1 = true := by rw [hb]; simp
        refine EvL.bind (specStep d.1 (slot_160 h1.1) e he) ?_
        have hx2 : ((stepR d.1 e, d.2) : Dk) = (if inB e.2.1 (-1) 159 = true then tryM d e else d) := by rw [← try_step, if_neg hb']
        refine EvL.bind (specDisk (stepR d.1 e, d.2) (hsm _ hx2)) (EvL.cond (fun hq => ?_) fun hq => ?_)
        · have e9 := (go _ hx2).1 hq
          rw [← e9] at next ⊢
          exact next
        · have e9 := (go _ hx2).2 hq
          rw [← e9] at next ⊢
          exact next
    · rw [if_neg (by simpa using hm), decide_eq_false hm]
      simp only [cond_false]
      exact EvL.now _
def slotDoM (d : Dk) (steps : List Stp) (most : Int) : Dk := if diskM d = true then runM most 0 steps d else ((0, 0, []), 0, 0, [])
theorem specSlotDo (d : Dk) (hs : SmallDk d) (steps : List Stp) (hst : SmallSts steps) (most : Int) : Ev (fun k => spec_SlotDo k d steps most) (slotDoM d steps most) := by
  unfold slotDoM
  refine Ev.step (fun k => spec_SlotDo_eq k d steps most) (Ev.bind (specDisk d hs) (Ev.cond (fun h0 => (Ev.now _).to ?_) fun h0 => ?_))
  · rw [if_neg (by rw [nt h0]; simp)]
  · rw [if_pos (nf h0)]
    exact Ev.bind (specCopyS d.1 hs.1) (Ev.bind (specCopyS d.2 hs.2) (EvL.ev (L := fun k j => spec_SlotDo_5 k j steps most 0 0 0 0 0 d.1.1 d.1.2.1 d.2.1 d.2.2.1 [] [] d.1.2.2 d.2.2.2) (specDoL most steps hst steps [] d rfl (nf h0))))

/-! ### the program -/
abbrev flatD (d : Dk) : Int × Int × List (List Int) × Int × Int × List (List Int) × Unit := (d.1.1, d.1.2.1, d.1.2.2, d.2.1, d.2.2.1, d.2.2.2, ())
abbrev flatS (e : Stp) : Bool × Int × Int × Int × List Int × Unit := (e.1, e.2.1, e.2.2.1, e.2.2.2.1, e.2.2.2.2, ())
theorem implHead1 (s : Sl) (e : Stp) (h : e.2.1 = -1) : Ev (fun k => impl_platter_head_1_h0 k s e) (setM s e, flatS e, ()) := by
  unfold setM
  rw [if_pos h]
  exact Ev.of 1 fun m => impl_platter_head_1_h0_eq m s e
theorem implHead (d : Dk) (e : Stp) (h : e.2.1 = -1) : Ev (fun k => impl_platter_head_h0 k e d) (tryM d e, flatD d, ()) := by
  have hw : Ev (fun k => impl_platter_with_h0 k e.1 d e) (tryM d e, flatD d, flatS e, ()) := by
    unfold tryM
    refine Ev.step (fun k => impl_platter_with_h0_eq k e.1 d e) (Ev.cond (fun hb => ?_) fun hb => ?_)
    · rw [if_pos hb]
      exact Ev.bind (implHead1 d.2 e h) (Ev.now _)
    · rw [if_neg (by rw [hb]; simp)]
      exact Ev.bind (implHead1 d.1 e h) (Ev.now _)
  exact Ev.step (fun k => impl_platter_head_h0_eq k e d) (Ev.bind hw (Ev.now _))
theorem cloneSS (l : List (List Int)) (h : l.length ≤ 1048576) : Ev (fun k => slices_Clone_int_int_n89 k l) l := by
  refine Ev.step (fun k => slices_Clone_int_int_n89_eq k l) ?_
  rw [decide_eq_true (by omega)]
  exact Ev.now _
theorem cloneI (l : List Int) (h : l.length ≤ 1048576) : Ev (fun k => slices_Clone_int_int k l) l := by
  refine Ev.step (fun k => slices_Clone_int_int_eq k l) ?_
  rw [decide_eq_true (by omega)]
  exact Ev.now _
theorem implSector1 (s : Sl) (h160 : s.2.2.length = 160) (e : Stp) (he : e.2.2.2.2.length ≤ 1048576) (h0 : 0 ≤ e.2.1) (h1 : e.2.1 ≤ 159) : Ev (fun k => impl_platter_sector_1_h0 k s e) (setM s e, flatS e, ()) := by
  unfold setM
  rw [if_neg (by omega)]
  have c2 : e.2.1 < (s.2.2.length : Int) := by omega
  have c3 : e.2.1.toNat < s.2.2.length := by omega
  refine Ev.step (fun k => impl_platter_sector_1_h0_eq k s e) (Ev.bind (cloneSS _ (by omega)) (Ev.bind (cloneI _ he) ?_))
  rw [decide_eq_true h0, decide_eq_true c2, decide_eq_true c3]
  exact Ev.now _
theorem implSector (d : Dk) (hA : d.1.2.2.length = 160) (hB : d.2.2.2.length = 160) (e : Stp) (he : e.2.2.2.2.length ≤ 1048576) (h0 : 0 ≤ e.2.1) (h1 : e.2.1 ≤ 159) : Ev (fun k => impl_platter_sector_h0 k e d) (tryM d e, flatD d, ()) := by
  have hw : Ev (fun k => impl_platter_with_h1 k e.1 d e) (tryM d e, flatD d, flatS e, ()) := by
    unfold tryM
    refine Ev.step (fun k => impl_platter_with_h1_eq k e.1 d e) (Ev.cond (fun hb => ?_) fun hb => ?_)
    · rw [if_pos hb]
      exact Ev.bind (implSector1 d.2 hB e he h0 h1) (Ev.now _)
    · rw [if_neg (by rw [hb]; simp)]
      exact Ev.bind (implSector1 d.1 hA e he h0 h1) (Ev.now _)
  exact Ev.step (fun k => impl_platter_sector_h0_eq k e d) (Ev.bind hw (Ev.now _))
theorem implWrite (d : Dk) (hd : diskM d = true) (e : Stp) (he : e.2.2.2.2.length ≤ 1048576) : Ev (fun k => impl_platter_write_h0 k e d) ((), flatD (doM d e), ()) := by
  have hs := disk_small hd
  have hss := disk_slots hd
  have ht := tryM_small hs he
  unfold doM
  refine Ev.step (fun k => impl_platter_write_h0_eq k e d) (Ev.bind (Ev.of 1 fun m => implIn m _ _ _) (Ev.cond (fun h0 => (Ev.now _).to ?_) fun h0 => ?_))
  · rw [if_neg (by rw [nt h0]; simp)]
  · have h0 := nf h0
    rw [if_pos h0]
    have hin := h0
    unfold inB at hin
    simp only [Bool.and_eq_true, decide_eq_true_eq] at hin
    refine Ev.cond (fun h => ?_) fun h => ?_
    · refine Ev.bind (implHead d e (by simpa using h)) (Ev.bind (implDisk _ ht) (Ev.cond (fun hq => (Ev.now _).to ?_) fun hq => (Ev.now _).to ?_))
      · rw [if_pos hq]
      · rw [if_neg (by rw [hq]; simp)]
    · have hne : ¬ e.2.1 = -1 := by simpa using h
      refine Ev.bind (implSector d (slot_160 hss.1) (slot_160 hss.2) e he (by omega) hin.2) (Ev.bind (implDisk _ ht) (Ev.cond (fun hq => (Ev.now _).to ?_) fun hq => (Ev.now _).to ?_))
      · rw [if_pos hq]
      · rw [if_neg (by rw [hq]; simp)]
theorem implCopyI (l : List (List Int)) (h : SmallSs l) : Ev (fun k => impl_copyEach_int_h0 k l) l := by
  have hl := h.1
  refine Ev.step (fun k => impl_copyEach_int_h0_eq k l) ?_
  by_cases h0 : l.length = 0
  · have e : l = [] := List.eq_nil_of_length_eq_zero h0
    subst e
    exact Ev.now _
  · have h1 : ((l.length : Int) == 0) = false := by simp; intro e; exact h0 (by rw [e]; rfl)
    rw [h1]
    simp only [cond_false, Int.le_refl, decide_true, cond_true, Int.toNat_natCast]
    rw [decide_eq_true (by omega)]
    simp only [cond_true]
    refine EvL.ev (L := fun k j => impl_copyEach_int_h0_5 k j l (l.length : Int) 0 (List.replicate l.length (dflt t_sl_int))) ?_
    refine (copy_loop (fun k j x i => impl_copyEach_int_h0_5 k j l (l.length : Int) (i : Int) x) l (dflt t_sl_int) (dflt t_sl_int) id (fun k j x => ?_) fun i hi => ⟨fun k => slices_Clone_int_int k (l.getD i (dflt t_sl_int)), cloneI _ (h.2 _ (getD_mem _ _ _ hi)), fun k j x hx => ?_⟩).to (List.map_id l)
    · rw [impl_copyEach_int_h0_5_eq, decide_eq_false (by omega)]; rfl
    · have c1 : (i : Int) < (l.length : Int) := by omega
      have c2 : (0 : Int) ≤ (i : Int) := by omega
      have c3 : (i : Int) < (x.length : Int) := by omega
      have c4 : i < x.length := by omega
      rw [impl_copyEach_int_h0_5_eq]
      simp only [decide_eq_true c1, decide_eq_true c2, decide_eq_true c3, decide_eq_true c4, cond_true, Int.toNat_natCast, w64n i (by omega)]
theorem implCopySl (s : Sl) (h : SmallSs s.2.2) : Ev (fun k => impl_copySlot k s) s := Ev.step (fun k => impl_copySlot_eq k s) (Ev.bind (implCopyI _ h) (Ev.now _))
theorem implDoL (most : Int) (steps : List Stp) (hst : SmallSts steps) (l : List Stp) : ∀ (pre : List Stp) (d : Dk), steps = pre ++ l → diskM d = true →
    EvL (fun k j => impl_SlotDo_5 k j most steps (steps.length : Int) (pre.length : Int) 0 0 0 0 d [] []) (runM most pre.length l d) := by
  have hl := hst.1
  have stop : ∀ (d : Dk), diskM d = true → Ev (fun k => (impl_copySlot k d.1).bind fun x0 => (impl_copySlot k d.2).bind fun x1 => some (((x0.1, x0.2.1, x0.2.2), x1.1, x1.2.1, x1.2.2))) d := fun d hd =>
    Ev.bind (implCopySl d.1 (disk_small hd).1) (Ev.bind (implCopySl d.2 (disk_small hd).2) (Ev.now _))
  induction l with
  | nil =>
    intro pre d hx hd
    have e : pre.length = steps.length := by rw [hx]; simp
    refine EvL.step (fun k j => ?_) (Ev.L (stop d hd))
    rw [impl_SlotDo_5_eq, decide_eq_false (by omega), cond_false]
  | cons e l ih =>
    intro pre d hx hd
    have hlen : steps.length = pre.length + (l.length + 1) := by rw [hx]; simp
    have c1 : (pre.length : Int) < (steps.length : Int) := by omega
    have c2 : (0 : Int) ≤ (pre.length : Int) := by omega
    have hg : steps.getD pre.length (dflt t_impl_SlotStep) = e := by rw [hx]; exact at_mid pre e _ l
    have he : e.2.2.2.2.length ≤ 1048576 := hst.2 e (by rw [hx]; exact List.mem_append_right _ (List.mem_cons_self ..))
    unfold runM
    refine EvL.step (fun k j => impl_SlotDo_5_eq k j most steps (steps.length : Int) (pre.length : Int) 0 0 0 0 d [] []) ?_
    simp only [decide_eq_true c1, decide_eq_true c2, cond_true, Int.toNat_natCast, hg, w64n pre.length (by omega)]
    by_cases hm : (pre.length : Int) < most
    · have hm' : ¬ (pre.length : Int) ≥ most := by omega
      rw [if_pos (decide_eq_true hm), decide_eq_false hm']
      simp only [cond_false]
      have next := ih (pre ++ [e]) (doM d e) (by rw [hx, List.append_assoc]; rfl) (doM_ok hd e)
      rw [List.length_append, List.length_singleton] at next
      exact EvL.bind (implWrite d hd e he) next
    · have hm' : (pre.length : Int) ≥ most := by omega
      rw [if_neg (by simpa using hm), decide_eq_true hm']
      simp only [cond_true]
      exact Ev.L (stop d hd)
theorem implSlotDo (d : Dk) (hs : SmallDk d) (steps : List Stp) (hst : SmallSts steps) (most : Int) : Ev (fun k => impl_SlotDo k d steps most) (slotDoM d steps most) := by
  unfold slotDoM
  refine Ev.step (fun k => impl_SlotDo_eq k d steps most) (Ev.bind (implDisk d hs) (Ev.cond (fun h0 => (Ev.now _).to ?_) fun h0 => ?_))
  · rw [if_neg (by rw [nt h0]; simp)]
  · rw [if_pos (nf h0)]
    exact EvL.ev (L := fun k j => impl_SlotDo_5 k j most steps (steps.length : Int) 0 0 0 0 0 d [] []) (implDoL most steps hst steps [] d rfl (nf h0))
theorem slotDoM_small (d : Dk) (steps : List Stp) (most : Int) : SmallDk (slotDoM d steps most) ∧ sumN List.length (slotDoM d steps most).1.2.2 ≤ 1280 ∧ sumN List.length (slotDoM d steps most).2.2.2 ≤ 1280 := by
  unfold slotDoM
  split
  · rename_i h
    have hd := runM_ok most steps 0 d h
    have h2 := disk_slots hd
    refine ⟨disk_small hd, ?_, ?_⟩
    · rw [← flat_sum]; exact (okSl _ h2.1).few
    · rw [← flat_sum]; exact (okSl _ h2.2).few
  · exact ⟨⟨⟨by simp, fun x hx => absurd hx (List.not_mem_nil)⟩, ⟨by simp, fun x hx => absurd hx (List.not_mem_nil)⟩⟩, by simp [sumN], by simp [sumN]⟩
end Go.Proofs.Ytiabhdebjajgiaa.SFnSlotOther
