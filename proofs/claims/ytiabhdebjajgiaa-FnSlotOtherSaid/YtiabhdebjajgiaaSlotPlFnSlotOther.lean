/- What a disk says: the reference's SlotRead and the program's are one plain function. Disks measured, carried over, compared, marked. -/
import Derived.Test.YtiabhdebjajgiaaWordPlFnSlotOther
import Derived.Test.YtiabhdebjajgiaaMarkLoopPlFnSlotOther
set_option linter.unusedVariables false
set_option linter.unusedSimpArgs false
namespace Go.Proofs.Ytiabhdebjajgiaa.SFnSlotOther
open Go Go.Sx Go.Pl

abbrev Sl := Int × Int × List (List Int)
abbrev Dk := Sl × Sl
abbrev dIs : List Int := dflt t_sl_int
theorem ask_thenS (L : Nat → Nat → Nat → Option Bool) (n : Nat) (p : Nat → Bool) (r : Bool) (hend : EvL (fun k j => L k j n) r)
    (hstep : ∀ i, i < n → ∀ rest, EvL (fun k j => L k j (i + 1)) rest → EvL (fun k j => L k j i) (p i && rest)) : EvL (fun k j => L k j 0) ((List.range n).all p && r) := by
  have key : ∀ m i, i + m = n → EvL (fun k j => L k j i) ((List.range' i m).all p && r) := by
    intro m
    induction m with
    | zero => intro i hi; obtain rfl : i = n := by omega
              simpa using hend
    | succ m ih =>
      intro i hi
      rw [List.range'_succ, List.all_cons, Bool.and_assoc]
      exact hstep i (by omega) _ (ih (i + 1) (by omega))
  have := key n 0 (by omega)
  rwa [← List.range_eq_range'] at this
theorem Ok3.eq_outS {α : Type} {r : α} {L : Nat → Nat → Nat → Option α} (h : Ok3 L (fun b => b = r)) : EvL (fun k i => L k i k) r := by
  obtain ⟨b, hb, rfl⟩ := h.inn
  exact hb
theorem EvL.okS {α : Type} {r : α} {L : Nat → Nat → Option α} (h : EvL L r) : OkL L (fun b => b = r) := ⟨r, h, rfl⟩
def numsM (l : List Int) : Bool := l.all fun x => inB x (-1) 9999
theorem specNums (l : List Int) (hl : l.length ≤ 1048576) : Ev (fun k => spec_l31Nums k l) (numsM l) := by
  refine Ev.step (fun k => spec_l31Nums_eq k l) ?_
  unfold numsM
  rw [← all_at l (dflt t_int) fun x => inB x (-1) 9999]
  refine EvL.ev (L := fun k j => spec_l31Nums_2 k j l 0) ?_
  refine all_loop (fun k j i => spec_l31Nums_2 k j l (i : Int)) l (dflt t_int) _ (fun k j => ?_) fun i hi rest hr => ?_
  · rw [spec_l31Nums_2_eq, decide_eq_false (by omega)]; rfl
  · have c1 : (i : Int) < (l.length : Int) := by omega
    have c2 : (0 : Int) ≤ (i : Int) := by omega
    refine EvL.step (fun k j => spec_l31Nums_2_eq k j l (i : Int)) ?_
    simp only [decide_eq_true c1, decide_eq_true c2, cond_true, Int.toNat_natCast, w64n i (by omega)]
    exact EvL.bind (Ev.of 1 fun m => spec_l22Max_eq m) (EvL.and (Ev.of 1 fun m => specIn m _ _ _) fun _ => hr)
theorem implNums (l : List Int) (hl : l.length ≤ 1048576) : Ev (fun k => impl_slotNums k l) (numsM l) := by
  refine Ev.step (fun k => impl_slotNums_eq k l) ?_
  unfold numsM
  rw [← all_at l (dflt t_int) fun x => inB x (-1) 9999]
  refine EvL.ev (L := fun k j => impl_slotNums_2 k j l (l.length : Int) 0) ?_
  refine all_loop (fun k j i => impl_slotNums_2 k j l (l.length : Int) (i : Int)) l (dflt t_int) _ (fun k j => ?_) fun i hi rest hr => ?_
  · rw [impl_slotNums_2_eq, decide_eq_false (by omega)]; rfl
  · have c1 : (i : Int) < (l.length : Int) := by omega
    have c2 : (0 : Int) ≤ (i : Int) := by omega
    have st : Ev (fun k => impl_slotNum k (l.getD i (dflt t_int))) (inB (l.getD i (dflt t_int)) (-1) 9999) := Ev.step (fun k => impl_slotNum_eq k _) (Ev.bind (Ev.of 1 fun m => implIn m _ _ _) (Ev.now _))
    refine EvL.step (fun k j => impl_slotNums_2_eq k j l (l.length : Int) (i : Int)) ?_
    simp only [decide_eq_true c1, decide_eq_true c2, cond_true, Int.toNat_natCast, w64n i (by omega)]
    exact EvL.and st fun _ => hr
def secM (l : List Int) : Bool := !decide ((l.length : Int) > 8) && numsM l
def slotM (s : Sl) : Bool := inB s.1 0 9999 && (decide (s.2.2.length = 160) && (s.2.2.all secM && inB s.2.1 0 1280))
def SmallSs (l : List (List Int)) : Prop := l.length ≤ 1048576 ∧ ∀ x ∈ l, x.length ≤ 1048576
theorem ne160 (m : Nat) : (((m : Nat) : Int) != 160) = !(decide (m = 160)) := by
  by_cases h : m = 160
  · subst h; rfl
  · have : ((m : Int) != 160) = true := bne_iff_ne.2 (by omega)
    rw [this, decide_eq_false h]; rfl
theorem specSlot1 (s : Sl) (h : SmallSs s.2.2) : Ev (fun k => spec_l31SlotOk k s) (slotM s) := by
  have hl := h.1
  refine Ev.step (fun k => spec_l31SlotOk_eq k s) (Ev.bind (Ev.of 1 fun m => spec_l22Max_eq m) (Ev.and (Ev.of 1 fun m => specIn m _ _ _) fun _ => ?_))
  rw [ne160]
  refine (Ev.andn (r := s.2.2.all secM && inB s.2.1 0 1280) fun _ => ?_).to (by rw [Bool.not_not])
  rw [← all_at s.2.2 dIs secM]
  refine EvL.ev (L := fun k j => spec_l31SlotOk_4 k j 0 s) ?_
  refine ask_thenS (fun k j i => spec_l31SlotOk_4 k j (i : Int) s) s.2.2.length _ _ ?_ fun i hi rest hr => ?_
  · refine EvL.step (M := fun k _ => (spec_l6In k s.2.1 0 1280).bind fun x1 => some x1) (fun k j => ?_) (Ev.L (Ev.bind (Ev.of 1 fun m => specIn m _ _ _) (Ev.now _)))
    rw [spec_l31SlotOk_4_eq, decide_eq_false (by omega), cond_false]
  · have c1 : (i : Int) < (s.2.2.length : Int) := by omega
    have c2 : (0 : Int) ≤ (i : Int) := by omega
    refine EvL.step (fun k j => spec_l31SlotOk_4_eq k j (i : Int) s) ?_
    simp only [decide_eq_true c1, decide_eq_true c2, cond_true, Int.toNat_natCast, w64n i (by omega)]
    unfold secM
    rw [Bool.and_assoc]
    exact EvL.andn fun _ => EvL.and (specNums _ (h.2 _ (getD_mem s.2.2 dIs i hi))) fun _ => hr
theorem implSlot1 (s : Sl) (h : SmallSs s.2.2) : Ev (fun k => impl_slotOk k s) (slotM s) := by
  have hl := h.1
  have e : slotM s = (inB s.1 0 9999 && (inB s.2.1 0 1280 && (decide (s.2.2.length = 160) && s.2.2.all secM))) := by
    unfold slotM
    cases inB s.1 0 9999 <;> cases inB s.2.1 0 1280 <;> cases decide (s.2.2.length = 160) <;> cases s.2.2.all secM <;> rfl
  rw [e]
  refine Ev.step (fun k => impl_slotOk_eq k s) (Ev.and (Ev.of 1 fun m => implIn m _ _ _) fun _ => Ev.and (Ev.of 1 fun m => implIn m _ _ _) fun _ => ?_)
  rw [ne160]
  refine (Ev.andn (r := s.2.2.all secM) fun _ => ?_).to (by rw [Bool.not_not])
  rw [← all_at s.2.2 dIs secM]
  refine EvL.ev (L := fun k j => impl_slotOk_4 k j s.2.2 (s.2.2.length : Int) 0) ?_
  refine all_loop (fun k j i => impl_slotOk_4 k j s.2.2 (s.2.2.length : Int) (i : Int)) s.2.2 dIs _ (fun k j => ?_) fun i hi rest hr => ?_
  · rw [impl_slotOk_4_eq, decide_eq_false (by omega)]; rfl
  · have c1 : (i : Int) < (s.2.2.length : Int) := by omega
    have c2 : (0 : Int) ≤ (i : Int) := by omega
    refine EvL.step (fun k j => impl_slotOk_4_eq k j s.2.2 (s.2.2.length : Int) (i : Int)) ?_
    simp only [decide_eq_true c1, decide_eq_true c2, cond_true, Int.toNat_natCast, w64n i (by omega)]
    unfold secM
    rw [Bool.and_assoc]
    exact EvL.andn fun _ => EvL.and (implNums _ (h.2 _ (getD_mem s.2.2 dIs i hi))) fun _ => hr
def SmallDk (d : Dk) : Prop := SmallSs d.1.2.2 ∧ SmallSs d.2.2.2
def diskM (d : Dk) : Bool := slotM d.1 && (slotM d.2 && (d.1.1 != d.2.1 || d.1.1 == 0))
theorem Ev.orc {b q : Bool} : Ev (fun _ => _root_.cond b (some true) (some q)) (b || q) := by cases b <;> exact Ev.now _
theorem specDisk (d : Dk) (h : SmallDk d) : Ev (fun k => spec_SlotOk k d) (diskM d) :=
  Ev.step (fun k => spec_SlotOk_eq k d) (Ev.and' (specSlot1 _ h.1) fun _ => Ev.and' (specSlot1 _ h.2) fun _ => Ev.orc)
theorem implDisk (d : Dk) (h : SmallDk d) : Ev (fun k => impl_SlotOk k d) (diskM d) :=
  Ev.step (fun k => impl_SlotOk_eq k d) (Ev.and' (implSlot1 _ h.1) fun _ => Ev.and' (implSlot1 _ h.2) fun _ => Ev.orc)
def laterM (d : Dk) : Sl := cond (decide (d.2.1 > d.1.1)) d.2 d.1
theorem specLater (d : Dk) : Ev (fun k => spec_l31Later k d) (laterM d) := by
  unfold laterM
  exact Ev.step (fun k => spec_l31Later_eq k d) (Ev.cond (fun h => (Ev.now _).to (by rw [h]; rfl)) fun h => (Ev.now _).to (by rw [h]; rfl))
/-! ### what is said -/
def saidM (s : Sl) (out : List Int) : List Int × Bool := cond (decide (s.1 > 0)) (out, (out.length : Int) == s.2.1) (out, false)
theorem said_end (s : Sl) (out : List Int) : Ev (fun _ => cond (decide (s.1 > 0)) (some (out, (out.length : Int) == s.2.1)) (some (out, false))) (saidM s out) := by
  unfold saidM
  exact Ev.cond (fun h => (Ev.now _).to (by rw [h]; rfl)) fun h => (Ev.now _).to (by rw [h]; rfl)
theorem take_two (a b : List Int) (n : Nat) : (a ++ b).take n = a.take n ++ b.take (n - (a.take n).length) := by
  rw [List.take_append]
  congr 1
  rw [List.length_take]
  rcases Nat.le_total n a.length with h | h
  · rw [Nat.min_eq_left h, show n - a.length = 0 from by omega, show n - n = 0 from by omega]
  · rw [Nat.min_eq_right h]
/-! ### rows put together -/
theorem flat_le (l : List (List Int)) (c : Nat) (h : ∀ x ∈ l, x.length ≤ c) : l.flatten.length ≤ c * l.length := by
  induction l with
  | nil => simp
  | cons x l ih =>
    rw [List.flatten_cons, List.length_append, List.length_cons, Nat.mul_add]
    have := ih fun y hy => h y (List.mem_cons_of_mem _ hy)
    have := h x List.mem_cons_self
    omega
theorem flat_drop (l : List (List Int)) (i : Nat) (h : i < l.length) : (l.drop i).flatten = l.getD i dIs ++ (l.drop (i + 1)).flatten := by
  rw [getD_drop l dIs i h, List.flatten_cons]
/-! ### read -/
def readM (d : Dk) : List Int × Bool := if diskM d = true then (if (laterM d).1 = 0 then ([], false) else if ((laterM d).2.2.flatten.length : Int) < (laterM d).2.1 then ([], false) else ((laterM d).2.2.flatten.take (laterM d).2.1.toNat, true)) else ([], false)
structure OkSl (s : Sl) : Prop where
  num : 0 ≤ s.1
  cnt : 0 ≤ s.2.1 ∧ s.2.1 ≤ 1280
  few : s.2.2.flatten.length ≤ 1280
  small : SmallSs s.2.2
theorem okSl (s : Sl) (h : slotM s = true) : OkSl s := by
  unfold slotM inB at h
  simp only [Bool.and_eq_true, decide_eq_true_eq] at h
  obtain ⟨⟨h1, _⟩, h2, h3, h4, h5⟩ := h
  have hs : ∀ x ∈ s.2.2, x.length ≤ 8 := fun x hx => by
    have := List.all_eq_true.1 h3 x hx
    unfold secM at this
    simp only [Bool.and_eq_true, Bool.not_eq_true', decide_eq_false_iff_not] at this
    omega
  have hf := flat_le s.2.2 8 hs
  exact ⟨by omega, ⟨by omega, by omega⟩, by omega, by omega, fun x hx => by have := hs x hx; omega⟩
theorem okLater (d : Dk) (h : diskM d = true) : OkSl (laterM d) := by
  unfold diskM at h
  simp only [Bool.and_eq_true] at h
  unfold laterM
  cases decide (d.2.1 > d.1.1) with
  | true => exact okSl _ h.2.1
  | false => exact okSl _ h.1
theorem readM_len (d : Dk) : (readM d).1.length ≤ 100000000 := by
  unfold readM
  split
  · rename_i h
    have O := okLater d h
    split
    · simp
    · split
      · simp
      · have := O.few
        show ((laterM d).2.2.flatten.take (laterM d).2.1.toNat).length ≤ 100000000
        rw [List.length_take]
        omega
  · simp
/-! ### measured, carried over, compared, marked -/
def LongSs (l : List (List Int)) : Prop := l.length ≤ maxLen ∧ ∀ x ∈ l, x.length ≤ maxLen
def LongDk (d : Dk) : Prop := LongSs d.1.2.2 ∧ LongSs d.2.2.2
def wSs (l : List (List Int)) : Nat := l.length + sumN List.length l
def wDk (d : Dk) : Nat := wSs d.1.2.2 + wSs d.2.2.2
theorem mem_sum {α : Type} (f : α → Nat) : ∀ (l : List α) (x : α), x ∈ l → f x ≤ sumN f l
  | y :: l, x, h => by
    unfold sumN
    rw [List.map_cons, List.sum_cons]
    rcases List.mem_cons.1 h with rfl | h
    · omega
    · have := mem_sum f l x h; unfold sumN at this; omega
theorem small_of (l : List (List Int)) (h : wSs l ≤ 1048576) : SmallSs l := by
  unfold wSs at h
  exact ⟨by omega, fun x hx => by have := mem_sum List.length l x hx; omega⟩
end Go.Proofs.Ytiabhdebjajgiaa.SFnSlotOther
