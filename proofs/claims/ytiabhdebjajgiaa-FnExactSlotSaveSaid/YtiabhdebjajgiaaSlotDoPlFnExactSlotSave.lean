/- What a disk is behind writes: the reference's SlotDo and the program's are one plain function. Steps measured, carried over, compared, marked; rows of rows marked and read back. -/
import Derived.Test.YtiabhdebjajgiaaSlotPlFnExactSlotSave
import Derived.Test.YtiabhdebjajgiaaMarkIPlFnExactSlotSave
set_option linter.unusedVariables false
set_option linter.unusedSimpArgs false
namespace Go.Proofs.Ytiabhdebjajgiaa.SFnExactSlotSave
open Go Go.Sx Go.Pl

abbrev Stp := Bool × Int × Int × Int × List Int
theorem at_mid {α : Type} (a : List α) (x d : α) (b : List α) : (a ++ x :: b).getD a.length d = x := by
  rw [List.getD_eq_getElem?_getD, List.getElem?_append_right (Nat.le_refl _)]; simp
theorem modify_mid {α : Type} (f : α → α) (a : List α) (x : α) (b : List α) : (a ++ x :: b).modify a.length f = a ++ f x :: b := by
  induction a with
  | nil => rfl
  | cons y a ih => simp [ih]

/-! ### rows of rows, marked and read back -/
def mkSS (m : Int) : List (List Int) → List (List Int)
  | [] => []
  | x :: l => mkNs m x.length :: mkSS (m + (x.length : Int)) l
theorem sum_cons (x : List Int) (l : List (List Int)) : (sumN List.length (x :: l) : Int) = (x.length : Int) + (sumN List.length l : Int) := by
  have : sumN List.length (x :: l) = x.length + sumN List.length l := by unfold sumN; rw [List.map_cons, List.sum_cons]
  omega
theorem markSsL (l : List (List Int)) : ∀ (pre : List (List Int)) (y : Int), 0 ≤ y → y + (sumN List.length l : Int) ≤ 100000000 → pre.length + l.length ≤ 1048576 →
    EvL (fun k j => laws_markIntSS_h0_2 k j y (pre.length : Int) (pre ++ l)) (y + (sumN List.length l : Int), pre ++ mkSS y l, ()) := by
  induction l with
  | nil =>
    intro pre y h0 h1 hn
    refine (EvL.step (M := fun _ _ => some (y, pre ++ [], ())) (fun k j => ?_) (EvL.now _)).to (by simp [sumN, mkSS])
    rw [laws_markIntSS_h0_2_eq, List.append_nil, decide_eq_false (by omega), cond_false]
  | cons x l ih =>
    intro pre y h0 h1 hn
    rw [sum_cons] at h1 ⊢
    rw [List.length_cons] at hn
    have c1 : (pre.length : Int) < ((pre ++ x :: l).length : Int) := by rw [List.length_append, List.length_cons]; omega
    have c2 : (0 : Int) ≤ (pre.length : Int) := by omega
    have c3 : pre.length < (pre ++ x :: l).length := by rw [List.length_append, List.length_cons]; omega
    have ha := at_mid pre x (dflt t_sl_int) l
    have hm := fun f => modify_mid f pre x l
    refine EvL.step (fun k j => laws_markIntSS_h0_2_eq k j y (pre.length : Int) (pre ++ x :: l)) ?_
    simp only [decide_eq_true c1, decide_eq_true c2, decide_eq_true c3, cond_true, Int.toNat_natCast, w64n pre.length (by omega), hm, ha]
    refine EvL.bind (markNS y h0 (by omega) x (by omega)) ?_
    have := ih (pre ++ [mkNs y x.length]) (y + (x.length : Int)) (by omega) (by omega) (by rw [List.length_append, List.length_singleton]; omega)
    rw [List.append_assoc, List.append_assoc, List.length_append, List.length_singleton] at this
    exact this.to (by rw [Int.add_assoc]; rfl)
theorem markSSx (m : Int) (h0 : 0 ≤ m) (l : List (List Int)) (h1 : m + (sumN List.length l : Int) ≤ 100000000) (hl : l.length ≤ 1048576) : Ev (fun k => laws_markIntSS_h0 k m l) (m + (sumN List.length l : Int), mkSS m l, ()) :=
  Ev.step (fun k => laws_markIntSS_h0_eq k m l) (EvL.ev (L := fun k j => laws_markIntSS_h0_2 k j m 0 l) (markSsL l [] m h0 h1 (by simpa using hl)))
theorem markDkX (a b c e : Int) (A B : List (List Int)) (hA : sumN List.length A ≤ 1048576) (hB : sumN List.length B ≤ 1048576) (lA : A.length ≤ 1048576) (lB : B.length ≤ 1048576) :
    Ev (fun k => laws_markSlotDisk_h0 k a b c e 1 A B) (1 + (sumN List.length A : Int) + (sumN List.length B : Int), mkSS 1 A, mkSS (1 + (sumN List.length A : Int)) B, ()) :=
  Ev.step (fun k => laws_markSlotDisk_h0_eq k a b c e 1 A B) (Ev.bind (Ev.step (fun k => laws_markSlot_h0_eq k a b 1 A) (Ev.bind (markSSx 1 (by decide) A (by omega) lA) (Ev.now _)))
    (Ev.bind (Ev.step (fun k => laws_markSlot_h0_eq k c e _ B) (Ev.bind (markSSx (1 + (sumN List.length A : Int)) (by omega) B (by omega) lB) (Ev.now _))) (Ev.now _)))
/-! ### steps measured, carried over, compared, marked -/
def lenSt (e : Stp) : Nat := e.2.2.2.2.length
def wSts (l : List Stp) : Nat := l.length + sumN lenSt l
def LongSts (l : List Stp) : Prop := l.length ≤ maxLen ∧ ∀ e ∈ l, e.2.2.2.2.length ≤ maxLen
def SmallSts (l : List Stp) : Prop := l.length ≤ 1048576 ∧ ∀ e ∈ l, e.2.2.2.2.length ≤ 1048576
theorem small_sts (l : List Stp) (h : wSts l ≤ 1048576) : SmallSts l := by
  unfold wSts at h
  exact ⟨by omega, fun x hx => by have := mem_sum lenSt l x hx; have e : lenSt x = x.2.2.2.2.length := rfl; omega⟩
theorem eqStp (e : Stp) (h : e.2.2.2.2.length ≤ 1048576) : Ev (fun k => laws_eqSlotStep k e e) true := by
  refine Ev.step (fun k => laws_eqSlotStep_eq k e e) ?_
  have hb : (!e.1 == e.1) = false := by cases e.1 <;> rfl
  simp only [hb, bne_self_eq_false, cond_false]
  exact Ev.bind (eqIntV _ (by omega)) (Ev.now _)
theorem eqSts (l : List Stp) (h : SmallSts l) : Ev (fun k => laws_eqSlotStepS k l l) true := by
  have hl := h.1
  refine Ev.step (fun k => laws_eqSlotStepS_eq k l l) ?_
  simp only [bne_self_eq_false, cond_false]
  refine EvL.ev (L := fun k j => laws_eqSlotStepS_4 k j l l 0) ?_
  refine loop_up (fun k j i => laws_eqSlotStepS_4 k j l l (i : Int)) l.length (fun _ => true) ?_ (fun i hi hr => ?_) 0 (by omega)
  · refine EvL.step (M := fun _ _ => some true) (fun k j => ?_) (EvL.now _)
    rw [laws_eqSlotStepS_4_eq, decide_eq_false (by omega), cond_false]
  · have c1 : (i : Int) < (l.length : Int) := by omega
    have c2 : (0 : Int) ≤ (i : Int) := by omega
    refine EvL.step (fun k j => laws_eqSlotStepS_4_eq k j l l (i : Int)) ?_
    simp only [decide_eq_true c1, decide_eq_true c2, cond_true, Int.toNat_natCast, w64n i (by omega)]
    exact EvL.bind (eqStp _ (h.2 _ (getD_mem _ _ _ hi))) hr
def cntSt (e : Stp) : Nat := 4 + e.2.2.2.2.length
theorem markSts_ok (y : Int) (l : List Stp) (h0 : 0 ≤ y) (h1 : y + (sumN cntSt l : Int) ≤ 100000000) : Ok (fun k => laws_markSlotStepS_h0 k y l) (fun r => @Eq Int r.1 (y + (sumN cntSt l : Int))) := by
  have hl : l.length ≤ 100000000 := by have := len_sum (f := cntSt) (fun x => by unfold cntSt; omega) l; omega
  refine Ok.step (fun k => laws_markSlotStepS_h0_eq k y l) ?_
  refine OkL.ok (L := fun k j => laws_markSlotStepS_h0_2 k j y 0 l) ?_
  refine mark_loop (fun k j y i xs => laws_markSlotStepS_h0_2 k j y (i : Int) xs) cntSt (dflt t_impl_SlotStep) l.length (fun k j y xs hn => ?_) (fun i y xs Q hi hn h0 h1 hc => ?_) y l rfl h0 h1
  · rw [laws_markSlotStepS_h0_2_eq, decide_eq_false (by omega), cond_false]
  · have c1 : (i : Int) < (l.length : Int) := by omega
    have c2 : (0 : Int) ≤ (i : Int) := by omega
    have hi' : i < xs.length := by omega
    have hg := fun f => modify_getD xs i f (dflt t_impl_SlotStep) hi'
    have hm : (cntSt (xs.getD i (dflt t_impl_SlotStep)) : Int) = 4 + ((xs.getD i (dflt t_impl_SlotStep)).2.2.2.2.length : Int) := by unfold cntSt; omega
    rw [hm] at h1 hc
    obtain ⟨f1, f2, f3, f4, _⟩ := tens (y := y) h0 (by omega)
    refine OkL.step (fun k j => laws_markSlotStepS_h0_2_eq k j y (i : Int) xs) ?_
    simp only [List.length_modify, hn, decide_eq_true c1, decide_eq_true c2, decide_eq_true hi, cond_true, Int.toNat_natCast, f1, f2, f3, f4, w64n i (by omega), List.modify_modify_eq, hg, Function.comp_apply]
    refine OkL.bind (markI_ok (y + 4) _ (by omega) (by omega)) fun b1 q1 => ?_
    have hb' : @Eq Int b1.1 (y + (4 + ((xs.getD i (dflt t_impl_SlotStep)).2.2.2.2.length : Int))) := by rw [q1]; omega
    rw [hb']
    exact hc _ (by simp [hn]) (modify_drop _ _ _)
theorem cntSts_bound (l : List Stp) : sumN cntSt l ≤ 4 * wSts l := by
  have hp : ∀ x : Stp, cntSt x ≤ 4 + 1 * lenSt x := fun x => by unfold cntSt lenSt; omega
  have h1 := sumN_add hp l
  unfold wSts
  omega

/-! ### one write -/
def setM (s : Sl) (e : Stp) : Sl := if e.2.1 = -1 then (e.2.2.1, e.2.2.2.1, s.2.2) else (s.1, s.2.1, s.2.2.set e.2.1.toNat e.2.2.2.2)
def tryM (d : Dk) (e : Stp) : Dk := if e.1 = true then (d.1, setM d.2 e) else (setM d.1 e, d.2)
def doM (d : Dk) (e : Stp) : Dk := if inB e.2.1 (-1) 159 = true then (if diskM (tryM d e) = true then tryM d e else d) else d
def runM (most : Int) : Nat → List Stp → Dk → Dk
  | _, [], d => d
  | i, e :: l, d => if decide ((i : Int) < most) = true then runM most (i + 1) l (doM d e) else d
theorem disk_slots {d : Dk} (h : diskM d = true) : slotM d.1 = true ∧ slotM d.2 = true := by
  unfold diskM at h
  simp only [Bool.and_eq_true] at h
  exact ⟨h.1, h.2.1⟩
theorem disk_small {d : Dk} (h : diskM d = true) : SmallDk d := ⟨(okSl _ (disk_slots h).1).small, (okSl _ (disk_slots h).2).small⟩
theorem slot_160 {s : Sl} (h : slotM s = true) : s.2.2.length = 160 := by
  unfold slotM at h
  simp only [Bool.and_eq_true, decide_eq_true_eq] at h
  exact h.2.1
theorem flat_sum (l : List (List Int)) : l.flatten.length = sumN List.length l := by
  unfold sumN
  rw [List.length_flatten]
theorem set_small {l : List (List Int)} (h : SmallSs l) (n : Nat) {x : List Int} (hx : x.length ≤ 1048576) : SmallSs (l.set n x) := by
  refine ⟨by rw [List.length_set]; exact h.1, fun y hy => ?_⟩
  rcases List.mem_or_eq_of_mem_set hy with hy | rfl
  · exact h.2 y hy
  · exact hx
theorem setM_small {s : Sl} (h : SmallSs s.2.2) {e : Stp} (he : e.2.2.2.2.length ≤ 1048576) : SmallSs (setM s e).2.2 := by
  unfold setM
  split
  · exact h
  · exact set_small h _ he
theorem tryM_small {d : Dk} (h : SmallDk d) {e : Stp} (he : e.2.2.2.2.length ≤ 1048576) : SmallDk (tryM d e) := by
  unfold tryM
  split
  · exact ⟨h.1, setM_small h.2 he⟩
  · exact ⟨setM_small h.1 he, h.2⟩
theorem doM_ok {d : Dk} (h : diskM d = true) (e : Stp) : diskM (doM d e) = true := by
  unfold doM
  split
  · split
    · rename_i h2; exact h2
    · exact h
  · exact h
theorem runM_ok (most : Int) (l : List Stp) : ∀ (i : Nat) (d : Dk), diskM d = true → diskM (runM most i l d) = true := by
  induction l with
  | nil => intro i d h; exact h
  | cons e l ih =>
    intro i d h
    unfold runM
    split
    · exact ih _ _ (doM_ok h e)
    · exact h

/-! ### the reference -/
/-- What the reference does to a slot: where there is no such sector, nothing. -/
def stepR (s : Sl) (e : Stp) : Sl := if inB e.2.1 (-1) 159 = true then setM s e else s
theorem try_step {d : Dk} (e : Stp) : (if e.1 = true then (d.1, stepR d.2 e) else (stepR d.1 e, d.2)) = if inB e.2.1 (-1) 159 = true then tryM d e else d := by
  unfold stepR tryM
  by_cases h : inB e.2.1 (-1) 159 = true
  · rw [if_pos h, if_pos h, if_pos h]
  · rw [if_neg h, if_neg h, if_neg h]; split <;> rfl
def slotDoM (d : Dk) (steps : List Stp) (most : Int) : Dk := if diskM d = true then runM most 0 steps d else ((0, 0, []), 0, 0, [])
/-! ### the program -/
abbrev flatD (d : Dk) : Int × Int × List (List Int) × Int × Int × List (List Int) × Unit := (d.1.1, d.1.2.1, d.1.2.2, d.2.1, d.2.2.1, d.2.2.2, ())
abbrev flatS (e : Stp) : Bool × Int × Int × Int × List Int × Unit := (e.1, e.2.1, e.2.2.1, e.2.2.2.1, e.2.2.2.2, ())
theorem slotDoM_small (d : Dk) (steps : List Stp) (most : Int) : SmallDk (slotDoM d steps most) ∧ sumN List.length (slotDoM d steps most).1.2.2 ≤ 1280 ∧ sumN List.length (slotDoM d steps most).2.2.2 ≤ 1280 := by
  unfold slotDoM
  split
  · rename_i h
    have hd := runM_ok most steps 0 d h
    have h2 := disk_slots hd
    refine ⟨disk_small hd, ?_, ?_⟩
    · rw [← flat_sum]; exact (okSl _ h2.1).few
    · rw [← flat_sum]; exact (okSl _ h2.2).few
  · exact ⟨⟨⟨by simp, fun x hx => absurd hx (List.not_mem_nil)⟩, ⟨by simp, fun x hx => absurd hx (List.not_mem_nil)⟩⟩, by simp [sumN], by simp [sumN]⟩
end Go.Proofs.Ytiabhdebjajgiaa.SFnExactSlotSave
