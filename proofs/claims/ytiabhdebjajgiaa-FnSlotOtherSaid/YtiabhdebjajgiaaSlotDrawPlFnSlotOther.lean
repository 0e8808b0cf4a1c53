/- What the reference draws for a disk: each draw answers, and a disk that is not too large. Lists compared. -/
import Derived.Test.YtiabhdebjajgiaaSlotSavePlFnSlotOther
import Derived.Test.YtiabhdebjajgiaaDrawPlFnSlotOther
set_option linter.unusedVariables false
set_option linter.unusedSimpArgs false
namespace Go.Proofs.Ytiabhdebjajgiaa.SFnSlotOther
open Go Go.Sx Go.Pl
theorem rdUp {r : List Int × Int} {i j : Nat} (hij : i ≤ j) (h : RdOk r i) : RdOk r j := ⟨h.1, h.2.1, h.2.2.1, by have := h.2.2.2; omega⟩
theorem pickI (n : Int) {r : List Int × Int} {m : Nat} (hr : RdOk r m) (hm : m < 1000000000) (hn : n ≤ 2147483648) :
    Ok (fun k => spec_l6Rd_pick_h0 k n r) (fun b => @LE.le Int _ 0 b.1 ∧ (1 ≤ n → @LT.lt Int _ b.1 n) ∧ RdOk (b.2.1.1, b.2.1.2.1) (m + 1)) := pickOk hr hm hn
theorem drawNumsL (n : Nat) : ∀ (r : List Int × Int) (m : Nat) (acc : List Int), RdOk r m → m + 3 * n < 100000000 → acc.length + n ≤ 1000000 →
    OkL (fun k j => spec_l73Nums_h0_3 k j (n : Int) r acc) (fun b => b.1.length = acc.length + n ∧ RdOk (b.2.1.1, b.2.1.2.1) (m + 3 * n)) := by
  induction n with
  | zero =>
    intro r m acc hr hm hl
    refine OkL.step (M := fun _ _ => some (acc, (r.1, r.2, ()), ())) (fun k j => ?_) (OkL.some ⟨rfl, hr⟩)
    rw [spec_l73Nums_h0_3_eq]; rfl
  | succ n ih =>
    intro r m acc hr hm hl
    refine OkL.step (fun k j => spec_l73Nums_h0_3_eq k j ((n + 1 : Nat) : Int) r acc) ?_
    rw [decide_eq_true (show ((n + 1 : Nat) : Int) > 0 by omega)]
    simp only [cond_true]
    refine OkL.bind (pickI 40 hr (by omega) (by omega)) fun x0 h0 => ?_
    refine OkL.bind (pickI 40 h0.2.2 (by omega) (by omega)) fun x1 h1 => ?_
    refine OkL.bind (P := fun b => @Eq Int b 9999) ⟨9999, Ev.of 1 fun m => spec_l22Max_eq m, rfl⟩ fun x2 h2 => ?_
    refine OkL.bind (pickI 5 h1.2.2 (by omega) (by omega)) fun x3 h3 => ?_
    have b1 := h3.1
    have b2 := h3.2.1 (by omega)
    have q0 : 0 ≤ Int.tdiv x3.1 2 := Int.tdiv_nonneg b1 (by omega)
    have q1 : Int.tdiv x3.1 2 ≤ 2 := by rw [Int.tdiv_eq_ediv_of_nonneg b1]; omega
    have q2 : IntKind.i64.wrap (Int.tdiv x3.1 2) = Int.tdiv x3.1 2 := w64 (by omega) (by omega)
    simp only [q2]
    have hw : IntKind.i64.wrap (((n + 1 : Nat) : Int) - 1) = (n : Int) := by rw [w64 (by omega) (by omega)]; omega
    simp only [hw]
    clear hw q2
    refine OkL.chk q0 (OkL.chk (by simp only [List.length_cons, List.length_nil]; omega) (OkL.chk (by simp only [List.length_cons, List.length_nil]; omega) (OkL.chk (by rw [List.length_singleton]; omega) ?_)))
    refine (ih _ (m + 3) (acc ++ [_]) (rdUp (by omega) h3.2.2) (by omega) (by rw [List.length_append, List.length_singleton]; omega)).imp fun b hb => ⟨by rw [hb.1, List.length_append, List.length_singleton]; omega, rdUp (by omega) hb.2⟩
theorem drawNums {r : List Int × Int} {m : Nat} (n : Int) (hn0 : 1 ≤ n) (hn : n ≤ 1000) (hr : RdOk r m) (hm : m < 1000000) : Ok (fun k => spec_l73Nums_h0 k n r) (fun b => b.1.length ≤ 1000 ∧ RdOk (b.2.1.1, b.2.1.2.1) (m + 4000)) := by
  refine Ok.step (fun k => spec_l73Nums_h0_eq k n r) (Ok.bind (pickI n hr (by omega) (by omega)) fun x0 h0 => ?_)
  obtain ⟨q, hq⟩ : ∃ q : Nat, x0.1 = (q : Int) := ⟨x0.1.toNat, (Int.toNat_of_nonneg h0.1).symm⟩
  have h1 := h0.2.1 hn0
  rw [hq] at h1 ⊢
  have := drawNumsL q (x0.2.1.1, x0.2.1.2.1) (m + 1) [] h0.2.2 (by omega) (by simp; omega)
  exact OkL.ok (L := fun k j => spec_l73Nums_h0_3 k j (q : Int) (x0.2.1.1, x0.2.1.2.1) []) (this.imp fun b hb => ⟨by rw [hb.1]; simp; omega, rdUp (by omega) hb.2⟩)
def rows0 : List (List Int) := List.replicate 160 []
def newD : Dk := ((0, 0, rows0), (0, 0, rows0))
theorem specNewD : Ev (fun k => spec_SlotNew k) newD := by
  refine Ev.step (fun k => spec_SlotNew_eq k) ?_
  refine EvL.ev (L := fun k j => spec_SlotNew_3 k j 0 0 0 0 0 0 0 0 0 [] [] [] []) ?_
  refine loop_up (fun k j i => spec_SlotNew_3 k j (i : Int) 0 0 0 0 0 0 0 0 [] [] (List.replicate i []) (List.replicate i [])) 160 (fun _ => newD) ?_ (fun i hi hr => ?_) 0 (by omega)
  · exact EvL.step (M := fun _ _ => some newD) (fun k j => by rw [spec_SlotNew_3_eq]; rfl) (EvL.now _)
  · have c1 : (i : Int) < 160 := by omega
    refine EvL.step (fun k j => spec_SlotNew_3_eq k j (i : Int) 0 0 0 0 0 0 0 0 [] [] (List.replicate i []) (List.replicate i [])) ?_
    simp only [decide_eq_true c1, cond_true, List.length_replicate, decide_eq_true (show (i + 1) * 24 ≤ 140737488351232 by omega), w64n i (by omega), ← List.replicate_succ']
    exact hr
theorem newD_ok : diskM newD = true := by decide +kernel
theorem doM_disk {d : Dk} (h : diskM d = true) (steps : List Stp) (most : Int) : diskM (slotDoM d steps most) = true := by
  unfold slotDoM
  rw [if_pos h]
  exact runM_ok most steps 0 d h
theorem room (m n : Nat) (h : m + 5000 * (n + 1) < 1000000) : m + 4000 < 1000000000 ∧ m + 4000 + 1 < 1000000000 := by
  generalize hc : 5000 * (n + 1) = c at h
  have : 5000 ≤ c := by omega
  clear hc
  exact ⟨Nat.lt_of_le_of_lt (Nat.add_le_add_left (Nat.le_trans (by decide) this) m) (Nat.lt_trans h (by decide)), Nat.lt_of_le_of_lt (Nat.add_le_add_left (Nat.le_trans (by decide : 4001 ≤ 5000) this) m) (Nat.lt_trans h (by decide))⟩
theorem drawDiskL (n : Nat) : ∀ (r : List Int × Int) (m : Nat) (d : Dk), RdOk r m → m + 5000 * n < 1000000 → diskM d = true →
    OkL (fun k j => spec_l73Disk_h0_3 k j (n : Int) r 0 0 0 0 d.1.1 d.1.2.1 d.2.1 d.2.2.1 [] [] d.1.2.2 d.2.2.2) (fun b => diskM b.1 = true ∧ RdOk (b.2.1.1, b.2.1.2.1) (m + 5000 * n)) := by
  induction n with
  | zero =>
    intro r m d hr hm hd
    refine OkL.step (M := fun _ _ => some (((d.1.1, d.1.2.1, d.1.2.2), d.2.1, d.2.2.1, d.2.2.2), (r.1, r.2, ()), ())) (fun k j => ?_) (OkL.some ⟨hd, hr⟩)
    rw [spec_l73Disk_h0_3_eq]; rfl
  | succ n ih =>
    intro r m d hr hm hd
    have hs := disk_small hd
    refine OkL.step (fun k j => spec_l73Disk_h0_3_eq k j ((n + 1 : Nat) : Int) r 0 0 0 0 d.1.1 d.1.2.1 d.2.1 d.2.2.1 [] [] d.1.2.2 d.2.2.2) ?_
    have hw : IntKind.i64.wrap (((n + 1 : Nat) : Int) - 1) = (n : Int) := by rw [w64 (by omega) (by omega)]; omega
    rw [decide_eq_true (show ((n + 1 : Nat) : Int) > 0 by omega)]
    simp only [cond_true, hw]
    clear hw
    have m1 := (room m n hm).1
    have m2 := (room m n hm).2
    refine OkL.bind (drawNums 30 (by omega) (by omega) hr (by omega)) fun x0 h0 => ?_
    refine OkL.bind (P := fun b => b = saveM d x0.1) ⟨_, specSave d hs x0.1 (by omega), rfl⟩ fun x1 h1 => ?_
    subst h1
    obtain ⟨s1, s2, _⟩ := saveM_small d x0.1
    generalize saveM d x0.1 = g at *
    refine OkL.cond (fun _ => ?_) fun _ => (ih _ (m + 4000) d (rdUp (by omega) h0.2) (by omega) hd).imp fun b hb => ⟨hb.1, rdUp (by omega) hb.2⟩
    refine OkL.bind (pickI 3 h0.2 m1 (by omega)) fun x2 h2 => ?_
    refine OkL.cond (fun _ => ?_) fun _ => ?_
    · have hw2 : IntKind.i64.wrap ((g.1.length : Int) + 1) = (g.1.length : Int) + 1 := w64 (by omega) (by omega)
      rw [hw2]
      clear hw2
      refine OkL.bind (pickI _ h2.2.2 m2 (by omega)) fun x3 h3 => ?_
      refine OkL.bind (P := fun b => b = slotDoM d g.1 x3.1) ⟨_, specSlotDo d hs _ s1 x3.1, rfl⟩ fun x4 h4 => ?_
      subst h4
      exact (ih _ (m + 4002) _ h3.2.2 (by omega) (doM_disk hd _ _)).imp fun b hb => ⟨hb.1, rdUp (by omega) hb.2⟩
    · refine OkL.bind (P := fun b => b = slotDoM d g.1 (g.1.length : Int)) ⟨_, specSlotDo d hs _ s1 _, rfl⟩ fun x5 h5 => ?_
      subst h5
      exact (ih _ (m + 4001) _ h2.2.2 (by omega) (doM_disk hd _ _)).imp fun b hb => ⟨hb.1, rdUp (by omega) hb.2⟩
theorem drawDisk {r : List Int × Int} {m : Nat} (hr : RdOk r m) (hm : m < 100000) : Ok (fun k => spec_l73Disk_h0 k r) (fun b => diskM b.1 = true ∧ RdOk (b.2.1.1, b.2.1.2.1) (m + 30000)) := by
  refine Ok.step (fun k => spec_l73Disk_h0_eq k r) (Ok.bind (P := fun b => b = newD) ⟨_, specNewD, rfl⟩ fun x0 h0 => ?_)
  subst h0
  refine Ok.bind (pickI 5 hr (by omega) (by omega)) fun x1 h1 => ?_
  obtain ⟨q, hq⟩ : ∃ q : Nat, x1.1 = (q : Int) := ⟨x1.1.toNat, (Int.toNat_of_nonneg h1.1).symm⟩
  have h2 := h1.2.1 (by omega)
  rw [hq] at h2 ⊢
  have := drawDiskL q (x1.2.1.1, x1.2.1.2.1) (m + 1) newD h1.2.2 (by omega) newD_ok
  exact OkL.ok (L := fun k j => spec_l73Disk_h0_3 k j (q : Int) (x1.2.1.1, x1.2.1.2.1) 0 0 0 0 newD.1.1 newD.1.2.1 newD.2.1 newD.2.2.1 [] [] newD.1.2.2 newD.2.2.2) (this.imp fun b hb => ⟨hb.1, rdUp (by omega) hb.2⟩)
theorem drop_small {l : List (List Int)} (h : SmallSs l) (i j : Nat) : SmallSs ((l.take j).drop i) :=
  ⟨by rw [List.length_drop, List.length_take]; have := h.1; omega, fun x hx => h.2 x (List.mem_of_mem_take (List.mem_of_mem_drop hx))⟩
theorem drawSpoil {r : List Int × Int} {m : Nat} (hr : RdOk r m) (hm : m < 100000) : Ok (fun k => spec_l73Spoil_h0 k r) (fun b => SmallDk b.1 ∧ RdOk (b.2.1.1, b.2.1.2.1) (m + 30010)) := by
  refine Ok.step (fun k => spec_l73Spoil_h0_eq k r) (Ok.bind (drawDisk hr hm) fun x0 h0 => ?_)
  have hs := disk_small h0.1
  have hd := disk_slots h0.1
  have l1 := slot_160 hd.1
  have l2 := slot_160 hd.2
  refine Ok.bind (pickI 14 h0.2 (by omega) (by omega)) fun x1 h1 => ?_
  refine Ok.cond (fun _ => ?_) fun _ => Ok.cond (fun _ => ?_) fun _ => Ok.cond (fun _ => ?_) fun _ => Ok.cond (fun _ => ?_) fun _ => Ok.cond (fun _ => ?_) fun _ => ?_
  · refine Ok.bind (P := fun b => @Eq Int b 9999) ⟨9999, Ev.of 1 fun m => spec_l22Max_eq m, rfl⟩ fun x2 _ => ?_
    refine Ok.bind (P := fun b => @Eq Int b 9999) ⟨9999, Ev.of 1 fun m => spec_l22Max_eq m, rfl⟩ fun x3 _ => ?_
    refine Ok.bind (pickI 4 h1.2.2 (by omega) (by omega)) fun x4 h4 => ?_
    have := h4.2.1 (by omega)
    have h9 := h4.1
    exact Ok.chk h4.1 (Ok.chk (by simp only [List.length_cons, List.length_nil]; omega) (Ok.chk (by simp only [List.length_cons, List.length_nil]; omega) (Ok.some ⟨⟨hs.1, hs.2⟩, rdUp (by omega) h4.2.2⟩)))
  · refine Ok.bind (pickI 3 h1.2.2 (by omega) (by omega)) fun x5 h5 => ?_
    have := h5.2.1 (by omega)
    have h9 := h5.1
    exact Ok.chk h5.1 (Ok.chk (by simp only [List.length_cons, List.length_nil]; omega) (Ok.chk (by simp only [List.length_cons, List.length_nil]; omega) (Ok.some ⟨⟨hs.1, hs.2⟩, rdUp (by omega) h5.2.2⟩)))
  · refine Ok.chk (by omega) (Ok.chk (Int.le_refl _) (Ok.some ⟨⟨drop_small hs.1 _ _, hs.2⟩, rdUp (by omega) h1.2.2⟩))
  · refine Ok.bind (pickI 5 h1.2.2 (by omega) (by omega)) fun x6 h6 => ?_
    refine Ok.bind (pickI 2 h6.2.2 (by omega) (by omega)) fun x7 h7 => ?_
    have a1 := h6.2.1 (by omega)
    have a2 := h7.2.1 (by omega)
    have a3 := h6.1
    have a4 := h7.1
    have hw : IntKind.i64.wrap (8 + x7.1) = 8 + x7.1 := w64 (by omega) (by omega)
    rw [hw]
    have g1 : @LT.lt Int _ x6.1 (List.length (α := List Int) x0.1.2.2.2 : Int) := by omega
    have g2 : Int.toNat x6.1 < List.length (α := List Int) x0.1.2.2.2 := by omega
    have g3 : (List.replicate (8 + x7.1).toNat (dflt t_int : Int)).length ≤ 1048576 := Nat.le_trans (Nat.le_of_eq List.length_replicate) (by omega)
    have g4 : @LE.le Int _ 0 (8 + x7.1) := by omega
    have g5 : (8 + x7.1).toNat * 8 ≤ 140737488351232 := by omega
    exact Ok.chk g4 (Ok.chk (Int.le_refl _) (Ok.chk g5 (Ok.chk h6.1 (Ok.chk g1 (Ok.chk g2 (Ok.some ⟨⟨hs.1, set_small hs.2 _ g3⟩, rdUp (by omega) h7.2.2⟩))))))
  · refine Ok.bind (pickI 5 h1.2.2 (by omega) (by omega)) fun x8 h8 => ?_
    have a1 := h8.2.1 (by omega)
    have a3 := h8.1
    have g1 : @LT.lt Int _ x8.1 (List.length (α := List Int) x0.1.1.2.2 : Int) := by omega
    have g2 : Int.toNat x8.1 < List.length (α := List Int) x0.1.1.2.2 := by omega
    exact Ok.chk h8.1 (Ok.chk g1 (Ok.chk g2 (Ok.some ⟨⟨set_small hs.1 _ (by simp), hs.2⟩, rdUp (by omega) h8.2.2⟩)))
  · exact Ok.some ⟨⟨hs.1, hs.2⟩, rdUp (by omega) h1.2.2⟩
theorem drawSave (a : List Int) (ha : ∀ x ∈ a, 0 ≤ x ∧ x ≤ 255) : Ok (fun k => spec_DrawSlotSave k a) (fun b => SmallDk b.1 ∧ b.2.length ≤ 2000) := by
  refine Ok.step (fun k => spec_DrawSlotSave_eq k a) (Ok.bind (openOk a ha) fun x0 h0 => ?_)
  refine Ok.bind (drawSpoil h0 (by omega)) fun x1 h1 => ?_
  refine Ok.bind (drawNums 60 (by omega) (by omega) h1.2 (by omega)) fun x2 h2 => ?_
  refine Ok.bind (pickI 14 h2.2 (by omega) (by omega)) fun x3 h3 => ?_
  refine Ok.cond (fun _ => ?_) fun _ => Ok.cond (fun _ => ?_) fun _ => ?_
  · refine Ok.bind (P := fun b => @Eq Int b 9999) ⟨9999, Ev.of 1 fun m => spec_l22Max_eq m, rfl⟩ fun x4 _ => ?_
    refine Ok.bind (pickI 2 h3.2.2 (by omega) (by omega)) fun x5 h5 => ?_
    have a1 := h5.2.1 (by omega)
    have a3 := h5.1
    have l2 := h2.1
    exact Ok.chk h5.1 (Ok.chk (by simp only [List.length_cons, List.length_nil]; omega) (Ok.chk (by simp only [List.length_cons, List.length_nil]; omega) (Ok.chk (by rw [List.length_singleton]; omega) (Ok.some ⟨⟨h1.1.1, h1.1.2⟩, by rw [List.length_append, List.length_singleton]; omega⟩))))
  · refine Ok.bind (pickI 2 h3.2.2 (by omega) (by omega)) fun x6 h6 => ?_
    have a1 := h6.2.1 (by omega)
    have a3 := h6.1
    have hw : IntKind.i64.wrap (1280 + x6.1) = 1280 + x6.1 := w64 (by omega) (by omega)
    rw [hw]
    have g3 : (List.replicate (1280 + x6.1).toNat (dflt t_int : Int)).length ≤ 2000 := Nat.le_trans (Nat.le_of_eq List.length_replicate) (by omega)
    have g4 : @LE.le Int _ 0 (1280 + x6.1) := by omega
    have g5 : (1280 + x6.1).toNat * 8 ≤ 140737488351232 := by omega
    exact Ok.chk g4 (Ok.chk (Int.le_refl _) (Ok.chk g5 (Ok.some ⟨⟨h1.1.1, h1.1.2⟩, g3⟩)))
  · exact Ok.some ⟨⟨h1.1.1, h1.1.2⟩, Nat.le_trans h2.1 (by omega)⟩

/-! ### compared -/
theorem ltIntV (l : List Int) (hl : l.length ≤ 1048576) : Ev (fun k => laws_ltInts k l l) true := by
  refine Ev.step (fun k => laws_ltInts_eq k l l) ?_
  simp only [bne_self_eq_false, cond_false]
  refine EvL.ev (L := fun k j => laws_ltInts_4 k j l l 0) ?_
  refine loop_up (fun k j i => laws_ltInts_4 k j l l (i : Int)) l.length (fun _ => true) ?_ (fun i hi hr => ?_) 0 (by omega)
  · refine EvL.step (M := fun _ _ => some true) (fun k j => ?_) (EvL.now _)
    rw [laws_ltInts_4_eq, decide_eq_false (by omega), cond_false]
  · have c1 : (i : Int) < (l.length : Int) := by omega
    have c2 : (0 : Int) ≤ (i : Int) := by omega
    refine EvL.step (fun k j => laws_ltInts_4_eq k j l l (i : Int)) ?_
    simp only [decide_eq_true c1, decide_eq_true c2, cond_true, Int.toNat_natCast, w64n i (by omega), bne_self_eq_false, cond_false]
    exact hr
theorem ltSts (l : List Stp) (h : SmallSts l) : Ev (fun k => laws_ltSteps k l l) true := by
  have hl := h.1
  refine Ev.step (fun k => laws_ltSteps_eq k l l) ?_
  simp only [bne_self_eq_false, cond_false]
  refine EvL.ev (L := fun k j => laws_ltSteps_4 k j l l 0) ?_
  refine loop_up (fun k j i => laws_ltSteps_4 k j l l (i : Int)) l.length (fun _ => true) ?_ (fun i hi hr => ?_) 0 (by omega)
  · refine EvL.step (M := fun _ _ => some true) (fun k j => ?_) (EvL.now _)
    rw [laws_ltSteps_4_eq, decide_eq_false (by omega), cond_false]
  · have c1 : (i : Int) < (l.length : Int) := by omega
    have c2 : (0 : Int) ≤ (i : Int) := by omega
    have hb : ∀ b : Bool, (!b == b) = false := fun b => by cases b <;> rfl
    refine EvL.step (fun k j => laws_ltSteps_4_eq k j l l (i : Int)) ?_
    simp only [decide_eq_true c1, decide_eq_true c2, cond_true, Int.toNat_natCast, w64n i (by omega), hb, bne_self_eq_false, cond_false]
    exact EvL.bind (ltIntV _ (h.2 _ (getD_mem _ _ _ hi))) hr
theorem ltSl (s : Sl) (h : SmallSs s.2.2) : Ev (fun k => laws_ltSlot k s s) true := by
  have hl := h.1
  refine Ev.step (fun k => laws_ltSlot_eq k s s) ?_
  simp only [bne_self_eq_false, cond_false]
  refine EvL.ev (L := fun k j => laws_ltSlot_4 k j 0 s s) ?_
  refine loop_up (fun k j i => laws_ltSlot_4 k j (i : Int) s s) s.2.2.length (fun _ => true) ?_ (fun i hi hr => ?_) 0 (by omega)
  · refine EvL.step (M := fun _ _ => some true) (fun k j => ?_) (EvL.now _)
    rw [laws_ltSlot_4_eq, decide_eq_false (by omega), cond_false]
  · have c1 : (i : Int) < (s.2.2.length : Int) := by omega
    have c2 : (0 : Int) ≤ (i : Int) := by omega
    refine EvL.step (fun k j => laws_ltSlot_4_eq k j (i : Int) s s) ?_
    simp only [decide_eq_true c1, decide_eq_true c2, cond_true, Int.toNat_natCast, w64n i (by omega)]
    exact EvL.bind (ltIntV _ (h.2 _ (getD_mem s.2.2 dIs i hi))) hr
end Go.Proofs.Ytiabhdebjajgiaa.SFnSlotOther
