/- What the law's own helpers answer: a copy of what came in, whether two values are one, and that what passes the look at its size is small. -/
import Derived.Test.YtbgibmngijomfaaGFnExactSlotOk
import Derived.Test.YtbgibmngijomfaaEv
set_option linter.unusedVariables false
set_option linter.unusedSimpArgs false
namespace Go.Proofs.Ytbgibmngijomfaa.XSlotOk
open Go.RowKit Go.Proofs.YtbgibmngijomfaaW.PrintWords Go.Proofs.YtbgibmngijomfaaW.PrintLast Go.Proofs.YtbgibmngijomfaaE

theorem laws_eqIntS_ev (a b : List (Int)) (h : a.length ≤ 1048576) : ∃ r, Ev (fun k => laws_eqIntS.f k a b) r ∧ (r = true ↔ a = b) := by
  have hl := h
  unfold laws_eqIntS.f
  by_cases hab : a.length = b.length
  case neg => exact ⟨false, ev_ite_neg (by omega) (Ev.now _), by constructor <;> intro e <;> first | (exact absurd (congrArg List.length e) hab) | simp at e⟩
  suffices hs : ∃ r, Ev (fun k => laws_eqIntS.l0 k a b 0) r ∧ (r = true ↔ a = b) by
    obtain ⟨r, h1, h2⟩ := hs
    exact ⟨r, ev_ite_pos (by omega) h1, h2⟩
  refine eq_loop (fun k i => laws_eqIntS.l0 k a b (i : Int)) a b (0 : Int) hab ?_ ?_
  · intro k
    simp only [laws_eqIntS.l0]
    rw [if_neg (by omega)]
  · intro i hi
    refine ⟨fun k => some (decide ((a.getD i (0 : Int)) = (b.getD i (0 : Int)))), ⟨_, Ev.now _, by simp⟩, fun k => ?_⟩
    have c1 : (i : Int) < (a.length : Int) := by omega
    have c2 : (0 : Int) ≤ (i : Int) := by omega
    have c3 : (i : Int) < (b.length : Int) := by omega
    simp only [laws_eqIntS.l0, if_pos c1, if_pos c2, if_pos c3, w64n i (by omega), Option.bind_some, decide_eq_true_eq]
    rfl
theorem laws_eqIntSS_ev (a b : List (List (Int))) (h : a.length ≤ 1048576 ∧ ∀ s0_ ∈ a, s0_.length ≤ 1048576) : ∃ r, Ev (fun k => laws_eqIntSS.f k a b) r ∧ (r = true ↔ a = b) := by
  have hl := h.1
  unfold laws_eqIntSS.f
  by_cases hab : a.length = b.length
  case neg => exact ⟨false, ev_ite_neg (by omega) (Ev.now _), by constructor <;> intro e <;> first | (exact absurd (congrArg List.length e) hab) | simp at e⟩
  suffices hs : ∃ r, Ev (fun k => laws_eqIntSS.l0 k a b 0) r ∧ (r = true ↔ a = b) by
    obtain ⟨r, h1, h2⟩ := hs
    exact ⟨r, ev_ite_pos (by omega) h1, h2⟩
  refine eq_loop (fun k i => laws_eqIntSS.l0 k a b (i : Int)) a b ([] : List (Int)) hab ?_ ?_
  · intro k
    simp only [laws_eqIntSS.l0]
    rw [if_neg (by omega)]
  · intro i hi
    refine ⟨fun k => laws_eqIntS.f k (a.getD i ([] : List (Int))) (b.getD i ([] : List (Int))), laws_eqIntS_ev _ _ (h.2 _ (getD_mem a ([] : List (Int)) i hi)), fun k => ?_⟩
    have c1 : (i : Int) < (a.length : Int) := by omega
    have c2 : (0 : Int) ≤ (i : Int) := by omega
    have c3 : (i : Int) < (b.length : Int) := by omega
    simp only [laws_eqIntSS.l0, if_pos c1, if_pos c2, if_pos c3, w64n i (by omega)]
    rfl
theorem laws_eqSlot_ev (xa0 : Int) (xa1 : Int) (xl2 : List (List (Int))) (ya0 : Int) (ya1 : Int) (yl2 : List (List (Int))) (h_xl2 : xl2.length ≤ 1048576 ∧ ∀ s0_ ∈ xl2, s0_.length ≤ 1048576) : ∃ r, Ev (fun k => laws_eqSlot.f k xa0 xa1 xl2 ya0 ya1 yl2) r ∧ (r = true ↔ xa0 = ya0 ∧ xa1 = ya1 ∧ xl2 = yl2 ∧ True) := by
  unfold laws_eqSlot.f
  refine eq_ite fun _ => ?_
  refine eq_ite fun _ => ?_
  refine eq_bind (laws_eqIntSS_ev xl2 yl2 h_xl2) fun _ => ?_
  exact eq_done
theorem laws_eqSlotDisk_ev (xa0 : Int) (xa1 : Int) (xl2 : List (List (Int))) (xa3 : Int) (xa4 : Int) (xl5 : List (List (Int))) (ya0 : Int) (ya1 : Int) (yl2 : List (List (Int))) (ya3 : Int) (ya4 : Int) (yl5 : List (List (Int))) (h_xl2 : xl2.length ≤ 1048576 ∧ ∀ s0_ ∈ xl2, s0_.length ≤ 1048576) (h_xl5 : xl5.length ≤ 1048576 ∧ ∀ s0_ ∈ xl5, s0_.length ≤ 1048576) : ∃ r, Ev (fun k => laws_eqSlotDisk.f k xa0 xa1 xl2 xa3 xa4 xl5 ya0 ya1 yl2 ya3 ya4 yl5) r ∧ (r = true ↔ (xa0 = ya0 ∧ xa1 = ya1 ∧ xl2 = yl2 ∧ True) ∧ (xa3 = ya3 ∧ xa4 = ya4 ∧ xl5 = yl5 ∧ True) ∧ True) := by
  unfold laws_eqSlotDisk.f
  refine eq_bind (laws_eqSlot_ev xa0 xa1 xl2 ya0 ya1 yl2 h_xl2) fun _ => ?_
  refine eq_bind (laws_eqSlot_ev xa3 xa4 xl5 ya3 ya4 yl5 h_xl5) fun _ => ?_
  exact eq_done
theorem laws_szIntS_ev (l : List (Int)) (left : Int) (h0 : 0 ≤ left) (h1 : left ≤ 1048576) (hg : l.length ≤ maxLen ∧ ∀ z0_ ∈ l, (Lit.int .i64 z0_).wf = true) : ∃ r, Ev (fun _ => laws_szIntS.f l left) r ∧ r ≤ 1048576 ∧ (0 ≤ r → l.length ≤ 1048576) := by
  unfold laws_szIntS.f
  exact sz_flat h0 h1 hg.1
theorem laws_szIntSS_ev (l : List (List (Int))) (left : Int) (h0 : 0 ≤ left) (h1 : left ≤ 1048576) (hg : l.length ≤ maxLen ∧ ∀ z0_ ∈ l, z0_.length ≤ maxLen ∧ ∀ z1_ ∈ z0_, (Lit.int .i64 z1_).wf = true) : ∃ r, Ev (fun k => laws_szIntSS.f k l left) r ∧ r ≤ 1048576 ∧ (0 ≤ r → l.length ≤ 1048576 ∧ ∀ s0_ ∈ l, s0_.length ≤ 1048576) := by
  unfold laws_szIntSS.f
  refine sz_loop (fun k c i => laws_szIntSS.l0 k l c (i : Int)) l ([] : List (Int)) (fun x => x.length ≤ 1048576) left h0 h1 hg.1 ?_ ?_
  · intro k c
    simp only [laws_szIntSS.l0]
    rw [if_neg (by omega)]
  · intro i hi hi2 c hc0 hc1
    refine ⟨fun k => laws_szIntS.f (l.getD i ([] : List (Int))) c, laws_szIntS_ev _ c hc0 hc1 (hg.2 _ (getD_mem l ([] : List (Int)) i hi)), fun k => ?_⟩
    have c1 : (i : Int) < (l.length : Int) := by omega
    have c2 : (0 : Int) ≤ (i : Int) := by omega
    simp only [laws_szIntSS.l0, if_pos c1, if_pos c2, w64n i hi2]
    rfl
theorem laws_szSlot_ev (a0 : Int) (a1 : Int) (l2 : List (List (Int))) (left : Int) (h0 : 0 ≤ left) (h1 : left ≤ 1048576) (g_l2 : l2.length ≤ maxLen ∧ ∀ z0_ ∈ l2, z0_.length ≤ maxLen ∧ ∀ z1_ ∈ z0_, (Lit.int .i64 z1_).wf = true) : ∃ r, Ev (fun k => laws_szSlot.f k a0 a1 l2 left) r ∧ r ≤ 1048576 ∧ (0 ≤ r → (l2.length ≤ 1048576 ∧ ∀ s0_ ∈ l2, s0_.length ≤ 1048576) ∧ True) := by
  unfold laws_szSlot.f
  have hr0 := h0
  have hr1 := h1
  refine sz_bind (laws_szIntSS_ev l2 left hr0 hr1 g_l2) (fun r1 hr0 hr1 => ?_)
  exact sz_done hr1
theorem laws_szSlotDisk_ev (a0 : Int) (a1 : Int) (l2 : List (List (Int))) (a3 : Int) (a4 : Int) (l5 : List (List (Int))) (left : Int) (h0 : 0 ≤ left) (h1 : left ≤ 1048576) (g_l2 : l2.length ≤ maxLen ∧ ∀ z0_ ∈ l2, z0_.length ≤ maxLen ∧ ∀ z1_ ∈ z0_, (Lit.int .i64 z1_).wf = true) (g_l5 : l5.length ≤ maxLen ∧ ∀ z0_ ∈ l5, z0_.length ≤ maxLen ∧ ∀ z1_ ∈ z0_, (Lit.int .i64 z1_).wf = true) : ∃ r, Ev (fun k => laws_szSlotDisk.f k a0 a1 l2 a3 a4 l5 left) r ∧ r ≤ 1048576 ∧ (0 ≤ r → ((l2.length ≤ 1048576 ∧ ∀ s0_ ∈ l2, s0_.length ≤ 1048576) ∧ True) ∧ ((l5.length ≤ 1048576 ∧ ∀ s0_ ∈ l5, s0_.length ≤ 1048576) ∧ True) ∧ True) := by
  unfold laws_szSlotDisk.f
  have hr0 := h0
  have hr1 := h1
  refine sz_bind (laws_szSlot_ev a0 a1 l2 left hr0 hr1 g_l2) (fun r1 hr0 hr1 => ?_)
  refine sz_bind (laws_szSlot_ev a3 a4 l5 r1 hr0 hr1 g_l5) (fun r2 hr0 hr1 => ?_)
  exact sz_done hr1
theorem laws_toIntS_ev (l : List (Int)) (h : l.length ≤ 1048576) : Ev (fun k => laws_toIntS.f k l) l := by
  have hl := h
  unfold laws_toIntS.f
  refine ev_ite_pos (by omega) (ev_ite_pos (by omega) ?_)
  rw [Int.toNat_natCast]
  refine ev_fun (copy_loop (fun k x3 i => laws_toIntS.l0 k l x3 (i : Int)) l (0 : Int) (0 : Int) (fun x => x) ?_ ?_) (by simp)
  · intro k x3
    simp only [laws_toIntS.l0]
    rw [if_neg (by omega)]
  · intro i hi
    refine ⟨fun k => some ((l.getD i (0 : Int))), Ev.now _, fun k x3 hx => ?_⟩
    have c1 : (i : Int) < (l.length : Int) := by omega
    have c2 : (0 : Int) ≤ (i : Int) := by omega
    have c3 : (i : Int) < (x3.length : Int) := by omega
    simp only [laws_toIntS.l0, if_pos c1, if_pos c2, if_pos c3, w64n i (by omega), Int.toNat_natCast, Option.bind_assoc, Option.bind_some]
    rfl
theorem laws_toIntSS_ev (l : List (List (Int))) (h : l.length ≤ 1048576 ∧ ∀ s0_ ∈ l, s0_.length ≤ 1048576) : Ev (fun k => laws_toIntSS.f k l) l := by
  have hl := h.1
  unfold laws_toIntSS.f
  refine ev_ite_pos (by omega) (ev_ite_pos (by omega) ?_)
  rw [Int.toNat_natCast]
  refine ev_fun (copy_loop (fun k x3 i => laws_toIntSS.l0 k l x3 (i : Int)) l ([] : List (Int)) ([] : List (Int)) (fun x => x) ?_ ?_) (by simp)
  · intro k x3
    simp only [laws_toIntSS.l0]
    rw [if_neg (by omega)]
  · intro i hi
    refine ⟨fun k => (laws_toIntS.f k (l.getD i ([] : List (Int)))), laws_toIntS_ev _ (h.2 _ (getD_mem l ([] : List (Int)) i hi)), fun k x3 hx => ?_⟩
    have c1 : (i : Int) < (l.length : Int) := by omega
    have c2 : (0 : Int) ≤ (i : Int) := by omega
    have c3 : (i : Int) < (x3.length : Int) := by omega
    simp only [laws_toIntSS.l0, if_pos c1, if_pos c2, if_pos c3, w64n i (by omega), Int.toNat_natCast, Option.bind_assoc, Option.bind_some]
    rfl
theorem laws_toSlot_ev (a0 : Int) (a1 : Int) (l2 : List (List (Int))) (h_l2 : l2.length ≤ 1048576 ∧ ∀ s0_ ∈ l2, s0_.length ≤ 1048576) : Ev (fun k => laws_toSlot.f k a0 a1 l2) (a0, a1, l2) := by
  unfold laws_toSlot.f
  refine Ev.bind (laws_toIntSS_ev l2 h_l2) ?_
  exact Ev.now _
theorem laws_toSlotDisk_ev (a0 : Int) (a1 : Int) (l2 : List (List (Int))) (a3 : Int) (a4 : Int) (l5 : List (List (Int))) (h_l2 : l2.length ≤ 1048576 ∧ ∀ s0_ ∈ l2, s0_.length ≤ 1048576) (h_l5 : l5.length ≤ 1048576 ∧ ∀ s0_ ∈ l5, s0_.length ≤ 1048576) : Ev (fun k => laws_toSlotDisk.f k a0 a1 l2 a3 a4 l5) (a0, a1, l2, a3, a4, l5) := by
  unfold laws_toSlotDisk.f
  refine Ev.bind (laws_toSlot_ev a0 a1 l2 h_l2) ?_
  refine Ev.bind (laws_toSlot_ev a3 a4 l5 h_l5) ?_
  exact Ev.now _
theorem laws_toIntS_sm (l : List (Int)) (h : l.length ≤ 1048576) : l.length ≤ 1048576 := h
theorem laws_toIntSS_sm (l : List (List (Int))) (h : l.length ≤ 1048576 ∧ ∀ s0_ ∈ l, s0_.length ≤ 1048576) : l.length ≤ 1048576 ∧ ∀ s0_ ∈ l, s0_.length ≤ 1048576 := h

end Go.Proofs.Ytbgibmngijomfaa.XSlotOk
