/- What a save writes: the reference's SlotSave and the program's are one plain function. Steps marked and read back. -/
import Derived.Test.YtiabhdebjajgiaaSlotDoPlFnSlotOther
import Derived.Test.YtiabhdebjajgiaaSx28
set_option linter.unusedVariables false
set_option linter.unusedSimpArgs false
namespace Go.Proofs.Ytiabhdebjajgiaa.SFnSlotOther
open Go Go.Sx Go.Pl

/-! ### steps marked and read back -/
def m3 (y : Int) : Bool := y.tmod 3 == 0
def mkSt (y : Int) : List Stp → List Stp
  | [] => []
  | e :: l => (m3 y, y + 1, y + 2, y + 3, mkNs (y + 4) e.2.2.2.2.length) :: mkSt (y + 4 + (e.2.2.2.2.length : Int)) l
theorem cnt_cons (e : Stp) (l : List Stp) : (sumN cntSt (e :: l) : Int) = 4 + (e.2.2.2.2.length : Int) + (sumN cntSt l : Int) := by
  have h : sumN cntSt (e :: l) = cntSt e + sumN cntSt l := by unfold sumN; rw [List.map_cons, List.sum_cons]
  have h2 : cntSt e = 4 + e.2.2.2.2.length := rfl
  omega
theorem len_mid {α : Type} (a : List α) (x : α) (b : List α) : (a ++ x :: b).length = a.length + b.length + 1 := by rw [List.length_append, List.length_cons]; omega
/-! ### what is written -/
def saveM (d : Dk) (ns : List Int) : List Stp × Bool := saveF d.1.1 d.1.2.1 d.1.2.2 d.2.1 d.2.2.1 d.2.2.2 ns
theorem implSave (d : Dk) (ns : List Int) : Ev (fun k => impl_SlotSave k d ns) (saveM d ns) := Ev.of 1 fun m => impl_SlotSave_eq m d ns
theorem inN_B (v lo hi : Int) : inN v lo hi = inB v lo hi := rfl
theorem numsF_M (l : List Int) : numsF l = numsM l := rfl
theorem secF_M (l : List Int) : secF l = secM l := rfl
theorem slotF_M (s : Sl) : slotF s.1 s.2.1 s.2.2 = slotM s := by
  unfold slotF slotM
  rw [inN_B, inN_B]
  show (inB s.1 0 9999 && (inB s.2.1 0 1280 && (decide (s.2.2.length = 160) && s.2.2.all secM))) = _
  cases inB s.1 0 9999 <;> cases inB s.2.1 0 1280 <;> cases decide (s.2.2.length = 160) <;> cases s.2.2.all secM <;> rfl
theorem diskF_M (d : Dk) : diskF d.1.1 d.1.2.1 d.1.2.2 d.2.1 d.2.2.1 d.2.2.2 = diskM d := by
  unfold diskF diskM
  rw [slotF_M d.1, slotF_M d.2]
theorem part_eq (ns : List Int) (i to : Nat) (h1 : 8 * i ≤ to) (h2 : to = min (8 * i + 8) ns.length) : List.drop (8 * i) (List.take to ns) = (ns.drop (8 * i)).take 8 := by
  rw [List.drop_take]
  by_cases h : 8 * i + 8 ≤ ns.length
  · rw [show to - 8 * i = 8 by omega]
  · rw [List.take_of_length_le (i := 8) (by rw [List.length_drop]; omega), List.take_of_length_le (by rw [List.length_drop]; omega)]
theorem keys_succ (sec : Bool) (ns : List Int) (i : Nat) : keysTo sec ns (List.range (i + 1)) = keysTo sec ns (List.range i) ++ [(sec, (i : Int), 0, 0, (ns.drop (8 * i)).take 8)] := by
  rw [List.range_succ]
  simp [keysTo, List.mapIdx_concat, chKey]
theorem keys_len (sec : Bool) (ns : List Int) (l : List Nat) : (keysTo sec ns l).length = l.length + 1 := by simp [keysTo]
theorem specSaveL (ns : List Int) (hl : ns.length ≤ 1280) (num : Int) (h0 : 0 ≤ num) (h1 : num < 9999) (sec : Bool) : ∀ (m i : Nat), i + m = nCh ns.length →
    EvL (fun k j => spec_SlotSave_8 k j ns num sec (i : Int) (keysTo sec ns (List.range i))) (keysOf sec (num + 1) ns, true) := by
  intro m
  have hw : ∀ x : Int, -9223372036854775808 ≤ x → x ≤ 9223372036854775807 → IntKind.i64.wrap x = x := fun x a b => w64 a b
  induction m with
  | zero =>
    intro i hi
    have hn : ¬ ((i : Int) * 8 < (ns.length : Int)) := by unfold nCh at hi; omega
    have hk : (keysTo sec ns (List.range i)).length ≤ 200 := by rw [keys_len, List.length_range]; unfold nCh at hi; omega
    refine EvL.step (M := fun _ _ => some (keysOf sec (num + 1) ns, true)) (fun k j => ?_) (EvL.now _)
    rw [spec_SlotSave_8_eq, hw ((i : Int) * 8) (by unfold nCh at hi; omega) (by unfold nCh at hi; omega), decide_eq_false hn, hw (num + 1) (by omega) (by omega)]
    have c : (List.length (keysTo sec ns (List.range i)) + 1) * 56 ≤ 140737488351232 := by omega
    rw [decide_eq_true c]
    simp only [cond_false, cond_true]
    unfold keysOf
    rw [← hi, Nat.add_zero]
  | succ m ih =>
    intro i hi
    have hi' : i < nCh ns.length := by omega
    have hn : (i : Int) * 8 < (ns.length : Int) := by unfold nCh at hi'; omega
    have hs : i < 200 := by unfold nCh at hi'; omega
    have hk : (keysTo sec ns (List.range i)).length ≤ 201 := by rw [keys_len, List.length_range]; omega
    have e8 : ((i : Int) * 8).toNat = 8 * i := by omega
    have c1 : (0 : Int) ≤ (i : Int) * 8 := by omega
    have c2 : (List.length (keysTo sec ns (List.range i)) + 1) * 56 ≤ 140737488351232 := by omega
    have next := ih (i + 1) (by omega)
    rw [keys_succ] at next
    refine EvL.step (fun k j => spec_SlotSave_8_eq k j ns num sec (i : Int) (keysTo sec ns (List.range i))) ?_
    simp only [hw ((i : Int) * 8) (by omega) (by omega), decide_eq_true hn, hw ((i : Int) + 1) (by omega) (by omega), hw (((i : Int) + 1) * 8) (by omega) (by omega), e8, decide_eq_true c1, decide_eq_true c2, cond_true, Int.toNat_natCast, List.nil_append]
    refine EvL.cond (fun hc => ?_) fun hc => ?_
    · have hc' : ((i : Int) + 1) * 8 > (ns.length : Int) := of_decide_eq_true hc
      have c3 : (i : Int) * 8 ≤ (ns.length : Int) := by omega
      have e := part_eq ns i ns.length (by omega) (by omega)
      have c4 : (0 + (List.drop (8 * i) (List.take ns.length ns)).length) * 8 ≤ 140737488351232 := by rw [e, List.length_take]; omega
      rw [decide_eq_true c3, decide_eq_true (Int.le_refl _), decide_eq_true c4]
      simp only [cond_true, e]
      exact next
    · have hc' : ¬ ((i : Int) + 1) * 8 > (ns.length : Int) := of_decide_eq_false hc
      have e9 : (((i : Int) + 1) * 8).toNat = 8 * i + 8 := by omega
      have c3 : (i : Int) * 8 ≤ ((i : Int) + 1) * 8 := by omega
      have c5 : ((i : Int) + 1) * 8 ≤ (ns.length : Int) := by omega
      have e := part_eq ns i (8 * i + 8) (by omega) (by omega)
      simp only [e9]
      have c4 : (0 + (List.drop (8 * i) (List.take (8 * i + 8) ns)).length) * 8 ≤ 140737488351232 := by rw [e, List.length_take]; omega
      rw [decide_eq_true c3, decide_eq_true c5, decide_eq_true c4]
      simp only [cond_true, e]
      exact next
theorem saveM_no {d : Dk} {ns : List Int} (h : (diskM d && decide (ns.length ≤ 1280) && numsM ns && decide ((laterM d).1 < 9999)) = false) : saveM d ns = ([], false) := by
  unfold saveM saveF
  rw [diskF_M, numsF_M]
  have e : (if d.1.1 < d.2.1 then d.2.1 else d.1.1) = (laterM d).1 := by
    unfold laterM
    by_cases hq : d.1.1 < d.2.1
    · rw [if_pos hq, decide_eq_true (show d.2.1 > d.1.1 from hq)]; rfl
    · rw [if_neg hq, decide_eq_false (show ¬ d.2.1 > d.1.1 from hq)]; rfl
  rw [e]
  cases h1 : (diskM d && decide (ns.length ≤ 1280) && numsM ns) with
  | false => rfl
  | true =>
    rw [h1, Bool.true_and] at h
    rw [h]; rfl
theorem saveM_yes {d : Dk} {ns : List Int} (h1 : diskM d = true) (h2 : ns.length ≤ 1280) (h3 : numsM ns = true) (h4 : (laterM d).1 < 9999) : saveM d ns = (keysOf (decide (d.2.1 ≤ d.1.1)) ((laterM d).1 + 1) ns, true) := by
  have e : (if d.1.1 < d.2.1 then d.2.1 else d.1.1) = (laterM d).1 := by
    unfold laterM
    by_cases hq : d.1.1 < d.2.1
    · rw [if_pos hq, decide_eq_true (show d.2.1 > d.1.1 from hq)]; rfl
    · rw [if_neg hq, decide_eq_false (show ¬ d.2.1 > d.1.1 from hq)]; rfl
  have e2 : (!decide (d.1.1 < d.2.1)) = decide (d.2.1 ≤ d.1.1) := by
    by_cases hq : d.1.1 < d.2.1
    · rw [decide_eq_true hq, decide_eq_false (by omega)]; rfl
    · rw [decide_eq_false hq, decide_eq_true (by omega)]; rfl
  unfold saveM saveF
  rw [diskF_M, numsF_M, h1, h3, decide_eq_true h2, e, e2, decide_eq_true h4]
  rfl
theorem later_in {d : Dk} (h : diskM d = true) : 0 ≤ (laterM d).1 := by
  have h2 := disk_slots h
  have g : ∀ s : Sl, slotM s = true → 0 ≤ s.1 := fun s hs => by
    unfold slotM inB at hs
    simp only [Bool.and_eq_true, decide_eq_true_eq] at hs
    exact hs.1.1
  unfold laterM
  cases decide (d.2.1 > d.1.1) with
  | true => exact g _ h2.2
  | false => exact g _ h2.1
theorem specSave (d : Dk) (hs : SmallDk d) (ns : List Int) (hl : ns.length ≤ 1048576) : Ev (fun k => spec_SlotSave k d ns) (saveM d ns) := by
  refine Ev.step (fun k => spec_SlotSave_eq k d ns) (Ev.bind (specLater d) (Ev.bind (specDisk d hs) (Ev.cond (fun h => (Ev.now _).to ?_) fun h => ?_)))
  · rw [saveM_no]
    rw [nt h]; rfl
  have hd := nf h
  refine Ev.bind (specNums ns hl) (Ev.cond (fun h => (Ev.now _).to ?_) fun h => ?_)
  · rw [saveM_no]
    rw [nt h, Bool.and_false]; rfl
  have hn := nf h
  refine Ev.cond (fun h => (Ev.now _).to ?_) fun h => ?_
  · rw [saveM_no]
    have : ¬ ns.length ≤ 1280 := by have := of_decide_eq_true h; omega
    rw [decide_eq_false this, Bool.and_false]; rfl
  have h1280 : ns.length ≤ 1280 := by have := of_decide_eq_false h; omega
  refine Ev.bind (Ev.of 1 fun m => spec_l22Max_eq m) (Ev.cond (fun h => (Ev.now _).to ?_) fun h => ?_)
  · rw [saveM_no]
    have h' : (laterM d).1 ≥ (9999 : Int) := of_decide_eq_true h
    have : ¬ (laterM d).1 < 9999 := by omega
    rw [decide_eq_false this, Bool.and_false]
  have h' : ¬ (laterM d).1 ≥ (9999 : Int) := of_decide_eq_false h
  have hlt : (laterM d).1 < 9999 := by omega
  rw [saveM_yes hd h1280 hn hlt]
  exact EvL.ev (L := fun k j => spec_SlotSave_8 k j ns (laterM d).1 (decide (d.2.1 ≤ d.1.1)) 0 (keysTo (decide (d.2.1 ≤ d.1.1)) ns (List.range 0))) (specSaveL ns h1280 (laterM d).1 (later_in hd) hlt _ (nCh ns.length) 0 (by omega))
theorem keys_small (sec : Bool) (num : Int) (ns : List Int) (hl : ns.length ≤ 1280) : (keysOf sec num ns).length ≤ 200 ∧ ∀ e ∈ keysOf sec num ns, e.2.2.2.2.length ≤ 8 := by
  constructor
  · unfold keysOf
    rw [List.length_append, keys_len, List.length_range]
    unfold nCh
    simp; omega
  · intro e he
    unfold keysOf at he
    rcases List.mem_append.1 he with he | he
    · unfold keysTo at he
      rcases List.mem_cons.1 he with rfl | he
      · exact Nat.zero_le _
      · rw [List.mem_mapIdx] at he
        obtain ⟨i, hi, rfl⟩ := he
        show ((ns.drop _).take 8).length ≤ 8
        rw [List.length_take]; omega
    · obtain rfl : e = _ := by simpa using he
      exact Nat.zero_le _
theorem sum_le {α : Type} (f : α → Nat) (c : Nat) : ∀ (l : List α), (∀ x ∈ l, f x ≤ c) → sumN f l ≤ c * l.length
  | [], _ => by simp [sumN]
  | x :: l, h => by
    have h1 := sum_le f c l (fun y hy => h y (List.mem_cons_of_mem _ hy))
    have h2 := h x List.mem_cons_self
    have e : sumN f (x :: l) = f x + sumN f l := by unfold sumN; rw [List.map_cons, List.sum_cons]
    rw [e, List.length_cons, Nat.mul_add]; omega
theorem saveM_small (d : Dk) (ns : List Int) : SmallSts (saveM d ns).1 ∧ (saveM d ns).1.length ≤ 200 ∧ sumN cntSt (saveM d ns).1 ≤ 100000 := by
  have key : ∀ l : List Stp, l.length ≤ 200 → (∀ e ∈ l, e.2.2.2.2.length ≤ 8) → SmallSts l ∧ l.length ≤ 200 ∧ sumN cntSt l ≤ 100000 := fun l h1 h2 => by
    refine ⟨⟨by omega, fun e he => by have := h2 e he; omega⟩, h1, ?_⟩
    have := sum_le cntSt 12 l (fun e he => by have := h2 e he; unfold cntSt; omega)
    omega
  cases h : (diskM d && decide (ns.length ≤ 1280) && numsM ns && decide ((laterM d).1 < 9999)) with
  | false =>
    rw [saveM_no h]
    exact key [] (by simp) (fun e he => by cases he)
  | true =>
    simp only [Bool.and_eq_true, decide_eq_true_eq] at h
    rw [saveM_yes h.1.1.1 h.1.1.2 h.1.2 h.2]
    have := keys_small (decide (d.2.1 ≤ d.1.1)) ((laterM d).1 + 1) ns h.1.1.2
    exact key _ this.1 this.2
end Go.Proofs.Ytiabhdebjajgiaa.SFnSlotOther
