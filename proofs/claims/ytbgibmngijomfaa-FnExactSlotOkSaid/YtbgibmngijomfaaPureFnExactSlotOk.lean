/- Proved: at every disk the program's SlotOk answers as the reference's. No condition. -/
import Derived.Test.YtbgibmngijomfaaLibSlotOk
set_option linter.unusedVariables false
set_option linter.unusedSimpArgs false
namespace Go.Proofs.Ytbgibmngijomfaa.XSlotOk
open Go.RowKit Go.Proofs.YtbgibmngijomfaaW.PrintWords Go.Proofs.YtbgibmngijomfaaE

theorem rdL1_nat (xs : List (List Int)) (i : Nat) : rd_L1 xs (i : Int) = xs.getD i [] := rfl
def inB (x a b : Int) : Bool := decide (a ≤ x) && decide (x ≤ b)
theorem specIn (x a b : Int) : spec_l6In.f x a b = some (inB x a b) := by
  unfold spec_l6In.f inB
  by_cases h : a ≤ x
  · rw [if_pos (show x ≥ a from h)]; simp [h]
  · rw [if_neg (show ¬ x ≥ a from h)]; simp [h]
theorem implIn (x a b : Int) : impl_within.f x a b = some (inB x a b) := by
  unfold impl_within.f inB
  by_cases h : a ≤ x
  · rw [if_pos (show x ≥ a from h)]; simp [h]
  · rw [if_neg (show ¬ x ≥ a from h)]; simp [h]
theorem specNums_ev (l : List Int) (h : l.length ≤ 1048576) : Ev (fun k => spec_l31Nums.f k l) (l.all fun x => inB x (-1) 9999) := by
  unfold spec_l31Nums.f
  refine loop_up (fun k i => spec_l31Nums.l0 k l (i : Int)) l.length (fun i => (l.drop i).all fun x => inB x (-1) 9999) ?_ ?_ 0 (by omega)
  · refine Ev.step (f := fun _ => some true) (fun k => by simp only [spec_l31Nums.l0]; rw [if_neg (by omega)]) ?_
    refine ev_fun (Ev.now _) (by simp)
  · intro i hi h1
    refine Ev.step (f := fun k => if inB (l.getD i 0) (-1) 9999 = true then spec_l31Nums.l0 k l ((i + 1 : Nat) : Int) else some false) (fun k => ?_) ?_
    · simp only [spec_l31Nums.l0, spec_l22Max.f, specIn]
      rw [if_pos (by omega), if_pos (by omega), rd_nat, w64n i (by omega)]
      rfl
    · rw [getD_drop l 0 i hi, List.all_cons]
      by_cases he : inB (l.getD i 0) (-1) 9999 = true
      · refine ev_ite_pos he (ev_fun h1 ?_)
        rw [he, Bool.true_and]
      · refine ev_ite_neg he (ev_fun (Ev.now _) ?_)
        rw [Bool.not_eq_true] at he
        rw [he, Bool.false_and]
theorem implNums_ev (l : List Int) (h : l.length ≤ 1048576) : Ev (fun k => impl_slotNums.f k l) (l.all fun x => inB x (-1) 9999) := by
  unfold impl_slotNums.f
  refine loop_up (fun k i => impl_slotNums.l0 k l (l.length : Int) (i : Int)) l.length (fun i => (l.drop i).all fun x => inB x (-1) 9999) ?_ ?_ 0 (by omega)
  · refine Ev.step (f := fun _ => some true) (fun k => by simp only [impl_slotNums.l0]; rw [if_neg (by omega)]) ?_
    refine ev_fun (Ev.now _) (by simp)
  · intro i hi h1
    refine Ev.step (f := fun k => if inB (l.getD i 0) (-1) 9999 = true then impl_slotNums.l0 k l (l.length : Int) ((i + 1 : Nat) : Int) else some false) (fun k => ?_) ?_
    · simp only [impl_slotNums.l0, impl_slotNum.f, implIn]
      rw [if_pos (by omega), if_pos (by omega), if_pos (by omega), rd_nat, w64n i (by omega)]
      rfl
    · rw [getD_drop l 0 i hi, List.all_cons]
      by_cases he : inB (l.getD i 0) (-1) 9999 = true
      · refine ev_ite_pos he (ev_fun h1 ?_)
        rw [he, Bool.true_and]
      · refine ev_ite_neg he (ev_fun (Ev.now _) ?_)
        rw [Bool.not_eq_true] at he
        rw [he, Bool.false_and]
def sectorOk (x : List Int) : Bool := decide (x.length ≤ 8) && x.all fun x => inB x (-1) 9999
def slotOkM (n c : Int) (l : List (List Int)) : Bool := inB n 0 9999 && (inB c 0 1280 && (decide (l.length = 160) && l.all sectorOk))
theorem specSlot_ev (n c : Int) (l : List (List Int)) (h : l.length ≤ 1048576) (hs : ∀ x ∈ l, x.length ≤ 1048576) : Ev (fun k => spec_l31SlotOk.f k n c l) (slotOkM n c l) := by
  unfold spec_l31SlotOk.f
  simp only [spec_l22Max.f, specIn, Option.bind_some]
  unfold slotOkM
  cases hn : inB n 0 9999 with
  | false =>
    refine ev_ite_neg (by decide) ?_
    exact Ev.step (f := fun _ => some false) (fun k => by simp [spec_l31SlotOk.j0]) (ev_fun (Ev.now _) (by simp))
  | true =>
    refine ev_ite_pos rfl ?_
    by_cases hl : l.length = 160
    · have e : ((l.length : Int) != 160) = false := by simp [hl]
      rw [e]
      refine Ev.step (f := fun k => spec_l31SlotOk.l0 k 0 n c l) (fun k => by simp [spec_l31SlotOk.j0]) ?_
      refine ev_fun (loop_up (fun k i => spec_l31SlotOk.l0 k (i : Int) n c l) l.length (fun i => inB c 0 1280 && (l.drop i).all sectorOk) ?_ ?_ 0 (by omega)) (by simp [hl])
      · refine Ev.step (f := fun _ => some (inB c 0 1280)) (fun k => by simp only [spec_l31SlotOk.l0, specIn]; rw [if_neg (by omega)]; rfl) ?_
        exact ev_fun (Ev.now _) (by simp)
      · intro i hi h1
        refine Ev.step (f := fun k => if ((l.getD i []).length : Int) > 8 then some false else (spec_l31Nums.f k (l.getD i [])).bind fun t => if t = true then spec_l31SlotOk.l0 k ((i + 1 : Nat) : Int) n c l else some false) (fun k => ?_) ?_
        · simp only [spec_l31SlotOk.l0]
          rw [if_pos (by omega), if_pos (by omega), rdL1_nat, w64n i (by omega)]
        · rw [getD_drop l [] i hi, List.all_cons]
          by_cases h8 : ((l.getD i []).length : Int) > 8
          · refine ev_ite_pos h8 (ev_fun (Ev.now _) ?_)
            have : sectorOk (l.getD i []) = false := by unfold sectorOk; rw [decide_eq_false (by omega), Bool.false_and]
            rw [this, Bool.false_and, Bool.and_false]
          · refine ev_ite_neg h8 (Ev.bind (specNums_ev _ (by omega)) ?_)
            have : sectorOk (l.getD i []) = (l.getD i []).all fun x => inB x (-1) 9999 := by unfold sectorOk; rw [decide_eq_true (by omega), Bool.true_and]
            rw [← this]
            by_cases he : sectorOk (l.getD i []) = true
            · refine ev_ite_pos he (ev_fun h1 ?_)
              rw [he, Bool.true_and]
            · refine ev_ite_neg he (ev_fun (Ev.now _) ?_)
              rw [Bool.not_eq_true] at he
              rw [he, Bool.false_and, Bool.and_false]
    · have e : ((l.length : Int) != 160) = true := by simp; omega
      rw [e]
      exact Ev.step (f := fun _ => some false) (fun k => by simp [spec_l31SlotOk.j0]) (ev_fun (Ev.now _) (by simp [hl]))
theorem implSlot_ev (n c : Int) (l : List (List Int)) (h : l.length ≤ 1048576) (hs : ∀ x ∈ l, x.length ≤ 1048576) : Ev (fun k => impl_slotOk.f k n c l) (slotOkM n c l) := by
  unfold impl_slotOk.f
  simp only [implIn, Option.bind_some]
  unfold slotOkM
  cases hn : inB n 0 9999 with
  | false =>
    refine ev_ite_neg (by decide) ?_
    exact Ev.step (f := fun _ => some false) (fun k => by simp [impl_slotOk.j0]) (ev_fun (Ev.now _) (by simp))
  | true =>
    refine ev_ite_pos rfl ?_
    cases hc : inB c 0 1280 with
    | false =>
      refine ev_ite_neg (by decide) ?_
      exact Ev.step (f := fun _ => some false) (fun k => by simp [impl_slotOk.j0]) (ev_fun (Ev.now _) (by simp))
    | true =>
      refine ev_ite_pos rfl ?_
      by_cases hl : l.length = 160
      · have e : ((l.length : Int) != 160) = false := by simp [hl]
        rw [e]
        refine Ev.step (f := fun k => impl_slotOk.l0 k l (l.length : Int) 0) (fun k => by simp [impl_slotOk.j0]) ?_
        refine ev_fun (loop_up (fun k i => impl_slotOk.l0 k l (l.length : Int) (i : Int)) l.length (fun i => (l.drop i).all sectorOk) ?_ ?_ 0 (by omega)) (by simp [hl])
        · refine Ev.step (f := fun _ => some true) (fun k => by simp only [impl_slotOk.l0]; rw [if_neg (by omega)]) ?_
          exact ev_fun (Ev.now _) (by simp)
        · intro i hi h1
          refine Ev.step (f := fun k => if ((l.getD i []).length : Int) > 8 then some false else (impl_slotNums.f k (l.getD i [])).bind fun t => if t = true then impl_slotOk.l0 k l (l.length : Int) ((i + 1 : Nat) : Int) else some false) (fun k => ?_) ?_
          · simp only [impl_slotOk.l0]
            rw [if_pos (by omega), if_pos (by omega), if_pos (by omega), rdL1_nat, w64n i (by omega)]
          · rw [getD_drop l [] i hi, List.all_cons]
            by_cases h8 : ((l.getD i []).length : Int) > 8
            · refine ev_ite_pos h8 (ev_fun (Ev.now _) ?_)
              have : sectorOk (l.getD i []) = false := by unfold sectorOk; rw [decide_eq_false (by omega), Bool.false_and]
              rw [this, Bool.false_and]
            · refine ev_ite_neg h8 (Ev.bind (implNums_ev _ (by omega)) ?_)
              have : sectorOk (l.getD i []) = (l.getD i []).all fun x => inB x (-1) 9999 := by unfold sectorOk; rw [decide_eq_true (by omega), Bool.true_and]
              rw [← this]
              by_cases he : sectorOk (l.getD i []) = true
              · refine ev_ite_pos he (ev_fun h1 ?_)
                rw [he, Bool.true_and]
              · refine ev_ite_neg he (ev_fun (Ev.now _) ?_)
                rw [Bool.not_eq_true] at he
                rw [he, Bool.false_and]
      · have e : ((l.length : Int) != 160) = true := by simp; omega
        rw [e]
        exact Ev.step (f := fun _ => some false) (fun k => by simp [impl_slotOk.j0]) (ev_fun (Ev.now _) (by simp [hl]))

def diskOkM (n c : Int) (l : List (List Int)) (n' c' : Int) (l' : List (List Int)) : Bool := slotOkM n c l && (slotOkM n' c' l' && (decide (n ≠ n') || n == 0))
theorem specDisk_ev (n c : Int) (l : List (List Int)) (n' c' : Int) (l' : List (List Int)) (h : l.length ≤ 1048576) (hs : ∀ x ∈ l, x.length ≤ 1048576) (h' : l'.length ≤ 1048576) (hs' : ∀ x ∈ l', x.length ≤ 1048576) :
    Ev (fun k => spec_SlotOk.f k n c l n' c' l') (diskOkM n c l n' c' l') := by
  unfold spec_SlotOk.f diskOkM
  refine Ev.bind (specSlot_ev n c l h hs) ?_
  cases slotOkM n c l with
  | false => exact ev_ite_neg (by decide) (Ev.now _)
  | true =>
    refine ev_ite_pos rfl (Ev.bind (specSlot_ev n' c' l' h' hs') ?_)
    cases slotOkM n' c' l' with
    | false => exact ev_ite_neg (by decide) (Ev.now _)
    | true =>
      refine ev_ite_pos rfl ?_
      by_cases e : n = n'
      · exact ev_ite_pos e (ev_fun (Ev.now _) (by simp [e]))
      · exact ev_ite_neg e (ev_fun (Ev.now _) (by simp [e]))
theorem implDisk_ev (n c : Int) (l : List (List Int)) (n' c' : Int) (l' : List (List Int)) (h : l.length ≤ 1048576) (hs : ∀ x ∈ l, x.length ≤ 1048576) (h' : l'.length ≤ 1048576) (hs' : ∀ x ∈ l', x.length ≤ 1048576) :
    Ev (fun k => impl_SlotOk.f k n c l n' c' l') (diskOkM n c l n' c' l') := by
  unfold impl_SlotOk.f diskOkM
  refine Ev.bind (implSlot_ev n c l h hs) ?_
  cases slotOkM n c l with
  | false => exact ev_ite_neg (by decide) (Ev.now _)
  | true =>
    refine ev_ite_pos rfl (Ev.bind (implSlot_ev n' c' l' h' hs') ?_)
    cases slotOkM n' c' l' with
    | false => exact ev_ite_neg (by decide) (Ev.now _)
    | true =>
      refine ev_ite_pos rfl ?_
      by_cases e : n = n'
      · exact ev_ite_pos e (ev_fun (Ev.now _) (by simp [e]))
      · exact ev_ite_neg e (ev_fun (Ev.now _) (by simp [e]))
end Go.Proofs.Ytbgibmngijomfaa.XSlotOk
namespace Go.Proofs.Ytbgibmngijomfaa.Pure
open Go.RowKit Go.Proofs.YtbgibmngijomfaaW.PrintWords Go.Proofs.YtbgibmngijomfaaE Go.Proofs.Ytbgibmngijomfaa.XSlotOk

theorem FnExactSlotOk : laws_FnExactSlotOk.Goal := by
  intro n c l n' c' l' _ _ hl _ _ hl'
  refine Ev.rounds (g := fun k => laws_FnExactSlotOk.f k n c l n' c' l') ?_
  unfold laws_FnExactSlotOk.f
  obtain ⟨r, hr, hr1, hr2⟩ := laws_szSlotDisk_ev n c l n' c' l' 1048576 (by omega) (by omega) hl hl'
  refine Ev.bind hr ?_
  by_cases h0 : r < 0
  · exact ev_ite_pos h0 (Ev.now _)
  obtain ⟨⟨⟨b1, b2⟩, _⟩, ⟨⟨b3, b4⟩, _⟩, _⟩ := hr2 (by omega)
  have hto := laws_toSlotDisk_ev n c l n' c' l' ⟨b1, b2⟩ ⟨b3, b4⟩
  refine ev_ite_neg h0 (Ev.bind hto ?_)
  refine Ev.bind (specDisk_ev n c l n' c' l' b1 b2 b3 b4) (Ev.bind hto (Ev.bind (implDisk_ev n c l n' c' l' b1 b2 b3 b4) ?_))
  refine ev_ite_neg (by simp) (Ev.bind hto ?_)
  obtain ⟨t, ht, ht2⟩ := laws_eqSlotDisk_ev n c l n' c' l' n c l n' c' l' ⟨b1, b2⟩ ⟨b3, b4⟩
  rw [ht2.2 (by simp)] at ht
  exact Ev.bind ht (ev_ite_pos rfl (Ev.now _))

end Go.Proofs.Ytbgibmngijomfaa.Pure
