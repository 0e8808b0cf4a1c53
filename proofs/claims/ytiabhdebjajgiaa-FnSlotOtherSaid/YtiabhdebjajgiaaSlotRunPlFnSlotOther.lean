/- What a save does to a disk, write by write: what stands is not touched; broken off, what was there is read; done, what was saved. -/
import Derived.Test.YtiabhdebjajgiaaSlotSavePlFnSlotOther
set_option linter.unusedVariables false
set_option linter.unusedSimpArgs false
namespace Go.Proofs.Ytiabhdebjajgiaa.SFnSlotOther
open Go Go.Sx Go.Pl
theorem runM_fold (l : List Stp) : ∀ (most : Int) (i : Nat) (d : Dk), runM most i l d = (l.take (most - (i : Int)).toNat).foldl doM d := by
  induction l with
  | nil => intro most i d; simp [runM]
  | cons e l ih =>
    intro most i d
    unfold runM
    by_cases h : (i : Int) < most
    · rw [if_pos (decide_eq_true h), ih]
      obtain ⟨n, hn⟩ : ∃ n, (most - (i : Int)).toNat = n + 1 := ⟨(most - (i : Int)).toNat - 1, by omega⟩
      rw [hn, List.take_succ_cons, List.foldl_cons]
      congr 2
      omega
    · rw [if_neg (by simpa using h)]
      have : (most - (i : Int)).toNat = 0 := by omega
      rw [this]; rfl
/-- A disk by what stands and what is written to. -/
def mkD (sec : Bool) (st o : Sl) : Dk := cond sec (st, o) (o, st)
def chAt (ns : List Int) (i : Nat) : List Int := (ns.drop (8 * i)).take 8
def dataJ (D : List (List Int)) (ns : List Int) (j : Nat) : List (List Int) := (List.range j).map (chAt ns) ++ D.drop j
theorem dataJ_len (D : List (List Int)) (ns : List Int) (j : Nat) (h : j ≤ D.length) : (dataJ D ns j).length = D.length := by
  unfold dataJ
  rw [List.length_append, List.length_map, List.length_range, List.length_drop]; omega
theorem dataJ_set (D : List (List Int)) (ns : List Int) (j : Nat) (h : j < D.length) : (dataJ D ns j).set j (chAt ns j) = dataJ D ns (j + 1) := by
  unfold dataJ
  have e : D.drop j = D[j] :: D.drop (j + 1) := List.drop_eq_getElem_cons h
  rw [e]
  have := set_atN ((List.range j).map (chAt ns)) D[j] (chAt ns j) (D.drop (j + 1))
  rw [List.length_map, List.length_range] at this
  rw [this, List.range_succ, List.map_append, List.append_assoc]
  rfl
theorem chAt_sec (ns : List Int) (hn : numsM ns = true) (i : Nat) : secM (chAt ns i) = true := by
  unfold secM
  have h8 : (chAt ns i).length ≤ 8 := by unfold chAt; rw [List.length_take]; omega
  have h9 : ¬ ((chAt ns i).length : Int) > 8 := by omega
  rw [decide_eq_false h9, Bool.not_false, Bool.true_and]
  unfold numsM at hn ⊢
  rw [List.all_eq_true] at hn ⊢
  exact fun x hx => hn x (List.mem_of_mem_drop (List.mem_of_mem_take hx))
theorem dataJ_ok (D : List (List Int)) (hD : D.all secM = true) (ns : List Int) (hn : numsM ns = true) (j : Nat) : (dataJ D ns j).all secM = true := by
  rw [List.all_eq_true] at hD ⊢
  intro x hx
  unfold dataJ at hx
  rcases List.mem_append.1 hx with hx | hx
  · obtain ⟨i, _, rfl⟩ := List.mem_map.1 hx
    exact chAt_sec ns hn i
  · exact hD x (List.mem_of_mem_drop hx)
theorem chunks_flat (ns : List Int) : ∀ j, ((List.range j).map (chAt ns)).flatten = ns.take (8 * j)
  | 0 => by simp
  | j + 1 => by
    rw [List.range_succ, List.map_append, List.flatten_append, chunks_flat ns j]
    show ns.take (8 * j) ++ (chAt ns j ++ []) = _
    rw [List.append_nil]
    unfold chAt
    rw [show 8 * (j + 1) = 8 * j + 8 by omega, List.take_add]
theorem slot_mk {n c : Int} {D : List (List Int)} (h1 : 0 ≤ n) (h2 : n ≤ 9999) (h3 : 0 ≤ c) (h4 : c ≤ 1280) (h5 : D.length = 160) (h6 : D.all secM = true) : slotM (n, c, D) = true := by
  unfold slotM inB
  rw [decide_eq_true h1, decide_eq_true h2, decide_eq_true h3, decide_eq_true h4, decide_eq_true h5, h6]
  rfl
theorem slot_all {s : Sl} (h : slotM s = true) : s.2.2.all secM = true := by
  unfold slotM at h
  simp only [Bool.and_eq_true, decide_eq_true_eq] at h
  exact h.2.2.1
theorem slot_num {s : Sl} (h : slotM s = true) : 0 ≤ s.1 ∧ s.1 ≤ 9999 := by
  unfold slotM inB at h
  simp only [Bool.and_eq_true, decide_eq_true_eq] at h
  exact h.1
theorem disk_mk {sec : Bool} {st o : Sl} (h1 : slotM st = true) (h2 : slotM o = true) (h3 : o.1 = 0 ∨ o.1 ≠ st.1) : diskM (mkD sec st o) = true := by
  have n1 := slot_num h1
  have n2 := slot_num h2
  unfold diskM mkD
  cases sec with
  | true =>
    show (slotM st && (slotM o && (st.1 != o.1 || st.1 == 0))) = true
    rw [h1, h2, Bool.true_and, Bool.true_and, Bool.or_eq_true, bne_iff_ne, beq_iff_eq]
    omega
  | false =>
    show (slotM o && (slotM st && (o.1 != st.1 || o.1 == 0))) = true
    rw [h1, h2, Bool.true_and, Bool.true_and, Bool.or_eq_true, bne_iff_ne, beq_iff_eq]
    omega
theorem try_mk (sec : Bool) (st o : Sl) (e : Stp) (h : e.1 = sec) : tryM (mkD sec st o) e = mkD sec st (setM o e) := by
  unfold tryM mkD
  rw [h]
  cases sec <;> rfl
theorem do_mk {sec : Bool} {st o : Sl} {e : Stp} (h : e.1 = sec) (hi : -1 ≤ e.2.1) (hj : e.2.1 ≤ 159) (hd : diskM (mkD sec st (setM o e)) = true) : doM (mkD sec st o) e = mkD sec st (setM o e) := by
  unfold doM
  rw [if_pos (by unfold inB; rw [decide_eq_true hi, decide_eq_true hj]; rfl), try_mk sec st o e h, if_pos hd]
/-- A disk to which numbers can be saved. -/
structure CanSave (d : Dk) (ns : List Int) : Prop where
  disk : diskM d = true
  len : ns.length ≤ 1280
  nums : numsM ns = true
  num : (laterM d).1 < 9999
theorem can_of {d : Dk} {ns : List Int} (h : (saveM d ns).2 = true) : CanSave d ns := by
  cases hc : (diskM d && decide (ns.length ≤ 1280) && numsM ns && decide ((laterM d).1 < 9999)) with
  | false => rw [saveM_no hc] at h; cases h
  | true =>
    simp only [Bool.and_eq_true, decide_eq_true_eq] at hc
    exact ⟨hc.1.1.1, hc.1.1.2, hc.1.2, hc.2⟩
def secOf (d : Dk) : Bool := decide (d.2.1 ≤ d.1.1)
def othM (d : Dk) : Sl := cond (secOf d) d.2 d.1
theorem later_eq (d : Dk) : laterM d = cond (secOf d) d.1 d.2 := by
  unfold laterM secOf
  by_cases h : d.2.1 > d.1.1
  · rw [decide_eq_true h, decide_eq_false (by omega)]; rfl
  · rw [decide_eq_false h, decide_eq_true (by omega)]; rfl
theorem disk_eq (d : Dk) : mkD (secOf d) (laterM d) (othM d) = d := by
  rw [later_eq]
  unfold mkD othM
  cases secOf d <;> rfl
section
variable {d : Dk} {ns : List Int} (hc : CanSave d ns)
include hc
theorem can_slots : slotM (laterM d) = true ∧ slotM (othM d) = true := by
  have h := disk_slots hc.disk
  rw [later_eq]
  unfold othM
  cases secOf d with
  | true => exact ⟨h.1, h.2⟩
  | false => exact ⟨h.2, h.1⟩
theorem part_ok (j : Nat) (hj : j ≤ 160) : slotM (0, 0, dataJ (othM d).2.2 ns j) = true := by
  have h := (can_slots hc).2
  have h160 := slot_160 h
  exact slot_mk (by omega) (by omega) (by omega) (by omega) (by rw [dataJ_len _ _ _ (by omega)]; exact h160) (dataJ_ok _ (slot_all h) ns hc.nums j)
theorem fin_ok (j : Nat) (hj : j ≤ 160) : slotM ((laterM d).1 + 1, (ns.length : Int), dataJ (othM d).2.2 ns j) = true := by
  have h := (can_slots hc).2
  have h160 := slot_160 h
  have hn := slot_num (can_slots hc).1
  have hl := hc.len
  have hm := hc.num
  exact slot_mk (by omega) (by omega) (by omega) (by omega) (by rw [dataJ_len _ _ _ (by omega)]; exact h160) (dataJ_ok _ (slot_all h) ns hc.nums j)
theorem fold_head : doM d (secOf d, -1, 0, 0, []) = mkD (secOf d) (laterM d) (0, 0, dataJ (othM d).2.2 ns 0) := by
  have e : setM (othM d) (secOf d, -1, 0, 0, []) = (0, 0, dataJ (othM d).2.2 ns 0) := by
    unfold setM dataJ
    rfl
  have := do_mk (sec := secOf d) (st := laterM d) (o := othM d) (e := (secOf d, -1, 0, 0, [])) rfl (show (-1 : Int) ≤ -1 by omega) (show (-1 : Int) ≤ 159 by omega) (by rw [e]; exact disk_mk (can_slots hc).1 (part_ok hc 0 (by omega)) (.inl rfl))
  rw [disk_eq, e] at this
  exact this
theorem fold_chunk (j : Nat) (hj : j < 160) : doM (mkD (secOf d) (laterM d) (0, 0, dataJ (othM d).2.2 ns j)) (secOf d, (j : Int), 0, 0, chAt ns j) = mkD (secOf d) (laterM d) (0, 0, dataJ (othM d).2.2 ns (j + 1)) := by
  have h160 := slot_160 (can_slots hc).2
  have e : setM (0, 0, dataJ (othM d).2.2 ns j) (secOf d, (j : Int), 0, 0, chAt ns j) = (0, 0, dataJ (othM d).2.2 ns (j + 1)) := by
    unfold setM
    have hne : ¬ ((j : Int) = -1) := by omega
    rw [if_neg hne]
    show ((0 : Int), (0 : Int), (dataJ (othM d).2.2 ns j).set (Int.toNat (j : Int)) (chAt ns j)) = _
    rw [Int.toNat_natCast, dataJ_set _ _ _ (by omega)]
  have := do_mk (sec := secOf d) (st := laterM d) (o := (0, 0, dataJ (othM d).2.2 ns j)) (e := (secOf d, (j : Int), 0, 0, chAt ns j)) rfl (show (-1 : Int) ≤ (j : Int) by omega) (show (j : Int) ≤ 159 by omega) (by rw [e]; exact disk_mk (can_slots hc).1 (part_ok hc (j + 1) (by omega)) (.inl rfl))
  rw [e] at this
  exact this
theorem fold_to (j : Nat) (hj : j ≤ 160) : (keysTo (secOf d) ns (List.range j)).foldl doM d = mkD (secOf d) (laterM d) (0, 0, dataJ (othM d).2.2 ns j) := by
  induction j with
  | zero => exact fold_head hc
  | succ j ih =>
    rw [keys_succ, List.foldl_append, ih (by omega)]
    exact fold_chunk hc j (by omega)
theorem fold_all : (keysOf (secOf d) ((laterM d).1 + 1) ns).foldl doM d = mkD (secOf d) (laterM d) ((laterM d).1 + 1, (ns.length : Int), dataJ (othM d).2.2 ns (nCh ns.length)) := by
  have hl := hc.len
  have hj : nCh ns.length ≤ 160 := by unfold nCh; omega
  unfold keysOf
  rw [List.foldl_append, fold_to hc _ hj]
  have e : setM (0, 0, dataJ (othM d).2.2 ns (nCh ns.length)) (secOf d, -1, (laterM d).1 + 1, (ns.length : Int), []) = ((laterM d).1 + 1, (ns.length : Int), dataJ (othM d).2.2 ns (nCh ns.length)) := rfl
  have := do_mk (sec := secOf d) (st := laterM d) (o := (0, 0, dataJ (othM d).2.2 ns (nCh ns.length))) (e := (secOf d, -1, (laterM d).1 + 1, (ns.length : Int), [])) rfl (show (-1 : Int) ≤ -1 by omega) (show (-1 : Int) ≤ 159 by omega) (by rw [e]; exact disk_mk (can_slots hc).1 (fin_ok hc _ hj) (.inr (by show (laterM d).1 + 1 ≠ (laterM d).1; omega)))
  rw [e] at this
  exact this
theorem save_eq : saveM d ns = (keysOf (secOf d) ((laterM d).1 + 1) ns, true) := saveM_yes hc.disk hc.len hc.nums hc.num
theorem do_all : slotDoM d (saveM d ns).1 ((saveM d ns).1.length : Int) = mkD (secOf d) (laterM d) ((laterM d).1 + 1, (ns.length : Int), dataJ (othM d).2.2 ns (nCh ns.length)) := by
  unfold slotDoM
  rw [if_pos hc.disk, runM_fold, save_eq hc]
  show (List.take (((keysOf (secOf d) ((laterM d).1 + 1) ns).length : Int) - ((0 : Nat) : Int)).toNat (keysOf (secOf d) ((laterM d).1 + 1) ns)).foldl doM d = _
  rw [show (((keysOf (secOf d) ((laterM d).1 + 1) ns).length : Int) - ((0 : Nat) : Int)).toNat = (keysOf (secOf d) ((laterM d).1 + 1) ns).length by omega, List.take_length]
  exact fold_all hc
theorem later_part (j : Nat) : laterM (mkD (secOf d) (laterM d) (0, 0, dataJ (othM d).2.2 ns j)) = laterM d := by
  have hn := slot_num (can_slots hc).1
  have ho := slot_num (can_slots hc).2
  unfold mkD
  cases hs : secOf d with
  | true =>
    show cond (decide ((0 : Int) > (laterM d).1)) _ _ = _
    rw [decide_eq_false (by omega)]; rfl
  | false =>
    have hgt : (laterM d).1 > 0 := by
      rw [later_eq, hs]
      unfold othM at ho
      rw [hs] at ho
      have h2 : ¬ d.2.1 ≤ d.1.1 := of_decide_eq_false hs
      have ho : 0 ≤ d.1.1 ∧ d.1.1 ≤ 9999 := ho
      show d.2.1 > 0
      omega
    show cond (decide ((laterM d).1 > (0 : Int))) _ _ = _
    rw [decide_eq_true hgt]; rfl
omit hc in
theorem later_all (x : Int × List (List Int)) : laterM (mkD (secOf d) (laterM d) ((laterM d).1 + 1, x)) = ((laterM d).1 + 1, x) := by
  unfold mkD
  cases hs : secOf d with
  | true =>
    show cond (decide ((laterM d).1 + 1 > (laterM d).1)) _ _ = _
    rw [decide_eq_true (by omega)]; rfl
  | false =>
    show cond (decide ((laterM d).1 > (laterM d).1 + 1)) _ _ = _
    rw [decide_eq_false (by omega)]; rfl
theorem read_all : readM (slotDoM d (saveM d ns).1 ((saveM d ns).1.length : Int)) = (ns, true) := by
  have hn := slot_num (can_slots hc).1
  have hl := hc.len
  have hj : nCh ns.length ≤ 160 := by unfold nCh; omega
  have hdk : diskM (mkD (secOf d) (laterM d) ((laterM d).1 + 1, (ns.length : Int), dataJ (othM d).2.2 ns (nCh ns.length))) = true := disk_mk (can_slots hc).1 (fin_ok hc _ hj) (.inr (by show (laterM d).1 + 1 ≠ (laterM d).1; omega))
  rw [do_all hc]
  unfold readM
  rw [if_pos hdk, later_all (d := d)]
  have h0 : ¬ (laterM d).1 + 1 = 0 := by omega
  have hf : (dataJ (othM d).2.2 ns (nCh ns.length)).flatten = ns ++ ((othM d).2.2.drop (nCh ns.length)).flatten := by
    unfold dataJ
    rw [List.flatten_append, chunks_flat, List.take_of_length_le (by unfold nCh; omega)]
  show (if (laterM d).1 + 1 = 0 then _ else if ((dataJ (othM d).2.2 ns (nCh ns.length)).flatten.length : Int) < (ns.length : Int) then _ else ((dataJ (othM d).2.2 ns (nCh ns.length)).flatten.take (ns.length : Int).toNat, true)) = _
  rw [if_neg h0, hf, if_neg (by rw [List.length_append]; omega), Int.toNat_natCast, List.take_left]
theorem read_part (k : Nat) (hk : k < (saveM d ns).1.length) : readM (slotDoM d (saveM d ns).1 (k : Int)) = readM d := by
  unfold slotDoM
  rw [if_pos hc.disk, runM_fold, show ((k : Int) - ((0 : Nat) : Int)).toNat = k by omega]
  rw [save_eq hc] at hk ⊢
  show readM ((List.take k (keysOf (secOf d) ((laterM d).1 + 1) ns)).foldl doM d) = _
  have hk : k < (keysOf (secOf d) ((laterM d).1 + 1) ns).length := hk
  have hl := hc.len
  have hkl : (keysOf (secOf d) ((laterM d).1 + 1) ns).length = nCh ns.length + 2 := by
    unfold keysOf
    rw [List.length_append, keys_len, List.length_range]; rfl
  cases k with
  | zero => rfl
  | succ k =>
    have e : List.take (k + 1) (keysOf (secOf d) ((laterM d).1 + 1) ns) = keysTo (secOf d) ns (List.range k) := by
      unfold keysOf
      rw [List.take_append_of_le_length (by rw [keys_len, List.length_range]; omega)]
      have : ∀ m, k ≤ m → List.take (k + 1) (keysTo (secOf d) ns (List.range m)) = keysTo (secOf d) ns (List.range k) := by
        intro m hm
        unfold keysTo
        rw [List.take_succ_cons]
        congr 1
        refine List.ext_getElem (by simp [List.length_take, List.length_mapIdx]; omega) fun i h1 h2 => ?_
        simp
      exact this _ (by omega)
    have hj : k ≤ 160 := by unfold nCh at hkl; omega
    rw [e, fold_to hc k hj]
    have hdk : diskM (mkD (secOf d) (laterM d) (0, 0, dataJ (othM d).2.2 ns k)) = true := disk_mk (can_slots hc).1 (part_ok hc k hj) (.inl rfl)
    unfold readM
    rw [if_pos hdk, if_pos hc.disk, later_part hc]
end
end Go.Proofs.Ytiabhdebjajgiaa.SFnSlotOther
