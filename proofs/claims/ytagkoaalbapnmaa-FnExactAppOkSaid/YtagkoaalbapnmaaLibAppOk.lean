/- What the law's own helpers answer: a copy of what came in, whether two values are one, and that what passes the look at its size is small. -/
import Derived.Test.YtagkoaalbapnmaaGFnExactAppOk
import Derived.Test.YtagkoaalbapnmaaEv
set_option linter.unusedVariables false
set_option linter.unusedSimpArgs false
namespace Go.Proofs.Ytagkoaalbapnmaa.XAppOk
open Go.RowKit Go.Proofs.YtagkoaalbapnmaaW.PrintWords Go.Proofs.YtagkoaalbapnmaaW.PrintLast Go.Proofs.YtagkoaalbapnmaaE

def Sm140 (x : S140) : Prop := True
theorem laws_szOpS_ev (l : List (S140)) (left : Int) (h0 : 0 ≤ left) (h1 : left ≤ 1048576) (hg : l.length ≤ maxLen ∧ ∀ z0_ ∈ l, Good140 z0_) : ∃ r, Ev (fun _ => laws_szOpS.f l left) r ∧ r ≤ 1048576 ∧ (0 ≤ r → l.length ≤ 1048576) := by
  unfold laws_szOpS.f
  exact sz_flat h0 h1 hg.1
theorem laws_szRule_ev (a0 : Int) (l1 : List (S140)) (left : Int) (h0 : 0 ≤ left) (h1 : left ≤ 1048576) (g_l1 : l1.length ≤ maxLen ∧ ∀ z0_ ∈ l1, Good140 z0_) : ∃ r, Ev (fun _ => laws_szRule.f a0 l1 left) r ∧ r ≤ 1048576 ∧ (0 ≤ r → (l1.length ≤ 1048576) ∧ True) := by
  unfold laws_szRule.f
  have hr0 := h0
  have hr1 := h1
  refine sz_bind (laws_szOpS_ev l1 left hr0 hr1 g_l1) (fun r1 hr0 hr1 => ?_)
  exact sz_done hr1
def Sm133 (x : S133) : Prop := (x.f1.length ≤ 1048576)
theorem laws_szRuleS_ev (l : List (S133)) (left : Int) (h0 : 0 ≤ left) (h1 : left ≤ 1048576) (hg : l.length ≤ maxLen ∧ ∀ z0_ ∈ l, Good133 z0_) : ∃ r, Ev (fun k => laws_szRuleS.f k l left) r ∧ r ≤ 1048576 ∧ (0 ≤ r → l.length ≤ 1048576 ∧ ∀ s0_ ∈ l, Sm133 s0_) := by
  unfold laws_szRuleS.f
  refine sz_loop (fun k c i => laws_szRuleS.l0 k l c (i : Int)) l z133 (fun x => Sm133 x) left h0 h1 hg.1 ?_ ?_
  · intro k c
    simp only [laws_szRuleS.l0]
    rw [if_neg (by omega)]
  · intro i hi hi2 c hc0 hc1
    refine ⟨fun k => laws_szRule.f (l.getD i z133).f0 (l.getD i z133).f1 c, sz_imp (laws_szRule_ev (l.getD i z133).f0 (l.getD i z133).f1 c hc0 hc1 ((hg.2 _ (getD_mem l z133 i hi)).2)) (fun q => q.1), fun k => ?_⟩
    have c1 : (i : Int) < (l.length : Int) := by omega
    have c2 : (0 : Int) ≤ (i : Int) := by omega
    simp only [laws_szRuleS.l0, if_pos c1, if_pos c2, w64n i hi2]
    rfl
theorem laws_szApp_ev (l0 : List (S133)) (left : Int) (h0 : 0 ≤ left) (h1 : left ≤ 1048576) (g_l0 : l0.length ≤ maxLen ∧ ∀ z0_ ∈ l0, Good133 z0_) : ∃ r, Ev (fun k => laws_szApp.f k l0 left) r ∧ r ≤ 1048576 ∧ (0 ≤ r → (l0.length ≤ 1048576 ∧ ∀ s0_ ∈ l0, Sm133 s0_) ∧ True) := by
  unfold laws_szApp.f
  have hr0 := h0
  have hr1 := h1
  refine sz_bind (laws_szRuleS_ev l0 left hr0 hr1 g_l0) (fun r1 hr0 hr1 => ?_)
  exact sz_done hr1
def Sm87 (x : S87) : Prop := (x.f0.length ≤ 1048576 ∧ ∀ s0_ ∈ x.f0, Sm133 s0_)
theorem laws_szAppS_ev (l : List (S87)) (left : Int) (h0 : 0 ≤ left) (h1 : left ≤ 1048576) (hg : l.length ≤ maxLen ∧ ∀ z0_ ∈ l, Good87 z0_) : ∃ r, Ev (fun k => laws_szAppS.f k l left) r ∧ r ≤ 1048576 ∧ (0 ≤ r → l.length ≤ 1048576 ∧ ∀ s0_ ∈ l, Sm87 s0_) := by
  unfold laws_szAppS.f
  refine sz_loop (fun k c i => laws_szAppS.l0 k l c (i : Int)) l z87 (fun x => Sm87 x) left h0 h1 hg.1 ?_ ?_
  · intro k c
    simp only [laws_szAppS.l0]
    rw [if_neg (by omega)]
  · intro i hi hi2 c hc0 hc1
    refine ⟨fun k => laws_szApp.f k (l.getD i z87).f0 c, sz_imp (laws_szApp_ev (l.getD i z87).f0 c hc0 hc1 ((hg.2 _ (getD_mem l z87 i hi)))) (fun q => q.1), fun k => ?_⟩
    have c1 : (i : Int) < (l.length : Int) := by omega
    have c2 : (0 : Int) ≤ (i : Int) := by omega
    simp only [laws_szAppS.l0, if_pos c1, if_pos c2, w64n i hi2]
    rfl
theorem laws_eqOp_ev (xa0 : Int) (xa1 : Int) (xa2 : Int) (xa3 : Int) (xa4 : Int) (ya0 : Int) (ya1 : Int) (ya2 : Int) (ya3 : Int) (ya4 : Int)  : ∃ r, Ev (fun _ => laws_eqOp.f xa0 xa1 xa2 xa3 xa4 ya0 ya1 ya2 ya3 ya4) r ∧ (r = true ↔ xa0 = ya0 ∧ xa1 = ya1 ∧ xa2 = ya2 ∧ xa3 = ya3 ∧ xa4 = ya4 ∧ True) := by
  unfold laws_eqOp.f
  refine eq_ite fun _ => ?_
  refine eq_ite fun _ => ?_
  refine eq_ite fun _ => ?_
  refine eq_ite fun _ => ?_
  refine eq_ite fun _ => ?_
  exact eq_done
def Sm121 (x : S121) : Prop := True
theorem ext121 (x y : S121) : (x.f0 = y.f0 ∧ x.f1 = y.f1 ∧ x.f2 = y.f2 ∧ x.f3 = y.f3 ∧ x.f4 = y.f4 ∧ True) ↔ x = y := by
  obtain ⟨p0, p1, p2, p3, p4⟩ := x
  obtain ⟨q0, q1, q2, q3, q4⟩ := y
  simp [S121.mk.injEq, and_assoc]
theorem laws_eqOpS_ev (a b : List (S121)) (h : a.length ≤ 1048576) : ∃ r, Ev (fun k => laws_eqOpS.f k a b) r ∧ (r = true ↔ a = b) := by
  have hl := h
  unfold laws_eqOpS.f
  by_cases hab : a.length = b.length
  case neg => exact ⟨false, ev_ite_neg (by omega) (Ev.now _), by constructor <;> intro e <;> first | (exact absurd (congrArg List.length e) hab) | simp at e⟩
  suffices hs : ∃ r, Ev (fun k => laws_eqOpS.l0 k a b 0) r ∧ (r = true ↔ a = b) by
    obtain ⟨r, h1, h2⟩ := hs
    exact ⟨r, ev_ite_pos (by omega) h1, h2⟩
  refine eq_loop (fun k i => laws_eqOpS.l0 k a b (i : Int)) a b z121 hab ?_ ?_
  · intro k
    simp only [laws_eqOpS.l0]
    rw [if_neg (by omega)]
  · intro i hi
    refine ⟨fun k => laws_eqOp.f (a.getD i z121).f0 (a.getD i z121).f1 (a.getD i z121).f2 (a.getD i z121).f3 (a.getD i z121).f4 (b.getD i z121).f0 (b.getD i z121).f1 (b.getD i z121).f2 (b.getD i z121).f3 (b.getD i z121).f4, eq_iff (laws_eqOp_ev (a.getD i z121).f0 (a.getD i z121).f1 (a.getD i z121).f2 (a.getD i z121).f3 (a.getD i z121).f4 (b.getD i z121).f0 (b.getD i z121).f1 (b.getD i z121).f2 (b.getD i z121).f3 (b.getD i z121).f4) (ext121 _ _), fun k => ?_⟩
    have c1 : (i : Int) < (a.length : Int) := by omega
    have c2 : (0 : Int) ≤ (i : Int) := by omega
    have c3 : (i : Int) < (b.length : Int) := by omega
    simp only [laws_eqOpS.l0, if_pos c1, if_pos c2, if_pos c3, w64n i (by omega)]
    rfl
theorem laws_eqRule_ev (xa0 : Int) (xl1 : List (S121)) (ya0 : Int) (yl1 : List (S121)) (h_xl1 : xl1.length ≤ 1048576) : ∃ r, Ev (fun k => laws_eqRule.f k xa0 xl1 ya0 yl1) r ∧ (r = true ↔ xa0 = ya0 ∧ xl1 = yl1 ∧ True) := by
  unfold laws_eqRule.f
  refine eq_ite fun _ => ?_
  refine eq_bind (laws_eqOpS_ev xl1 yl1 h_xl1) fun _ => ?_
  exact eq_done
def Sm94 (x : S94) : Prop := (x.f1.length ≤ 1048576)
theorem ext94 (x y : S94) : (x.f0 = y.f0 ∧ x.f1 = y.f1 ∧ True) ↔ x = y := by
  obtain ⟨p0, p1⟩ := x
  obtain ⟨q0, q1⟩ := y
  simp [S94.mk.injEq, and_assoc]
theorem laws_eqRuleS_ev (a b : List (S94)) (h : a.length ≤ 1048576 ∧ ∀ s0_ ∈ a, Sm94 s0_) : ∃ r, Ev (fun k => laws_eqRuleS.f k a b) r ∧ (r = true ↔ a = b) := by
  have hl := h.1
  unfold laws_eqRuleS.f
  by_cases hab : a.length = b.length
  case neg => exact ⟨false, ev_ite_neg (by omega) (Ev.now _), by constructor <;> intro e <;> first | (exact absurd (congrArg List.length e) hab) | simp at e⟩
  suffices hs : ∃ r, Ev (fun k => laws_eqRuleS.l0 k a b 0) r ∧ (r = true ↔ a = b) by
    obtain ⟨r, h1, h2⟩ := hs
    exact ⟨r, ev_ite_pos (by omega) h1, h2⟩
  refine eq_loop (fun k i => laws_eqRuleS.l0 k a b (i : Int)) a b z94 hab ?_ ?_
  · intro k
    simp only [laws_eqRuleS.l0]
    rw [if_neg (by omega)]
  · intro i hi
    refine ⟨fun k => laws_eqRule.f k (a.getD i z94).f0 (a.getD i z94).f1 (b.getD i z94).f0 (b.getD i z94).f1, eq_iff (laws_eqRule_ev (a.getD i z94).f0 (a.getD i z94).f1 (b.getD i z94).f0 (b.getD i z94).f1 (h.2 _ (getD_mem a z94 i hi))) (ext94 _ _), fun k => ?_⟩
    have c1 : (i : Int) < (a.length : Int) := by omega
    have c2 : (0 : Int) ≤ (i : Int) := by omega
    have c3 : (i : Int) < (b.length : Int) := by omega
    simp only [laws_eqRuleS.l0, if_pos c1, if_pos c2, if_pos c3, w64n i (by omega)]
    rfl
theorem laws_eqApp_ev (xl0 : List (S94)) (yl0 : List (S94)) (h_xl0 : xl0.length ≤ 1048576 ∧ ∀ s0_ ∈ xl0, Sm94 s0_) : ∃ r, Ev (fun k => laws_eqApp.f k xl0 yl0) r ∧ (r = true ↔ xl0 = yl0 ∧ True) := by
  unfold laws_eqApp.f
  refine eq_bind (laws_eqRuleS_ev xl0 yl0 h_xl0) fun _ => ?_
  exact eq_done
def Sm90 (x : S90) : Prop := (x.f0.length ≤ 1048576 ∧ ∀ s0_ ∈ x.f0, Sm94 s0_)
theorem ext90 (x y : S90) : (x.f0 = y.f0 ∧ True) ↔ x = y := by
  obtain ⟨p0⟩ := x
  obtain ⟨q0⟩ := y
  simp [S90.mk.injEq, and_assoc]
theorem laws_eqAppS_ev (a b : List (S90)) (h : a.length ≤ 1048576 ∧ ∀ s0_ ∈ a, Sm90 s0_) : ∃ r, Ev (fun k => laws_eqAppS.f k a b) r ∧ (r = true ↔ a = b) := by
  have hl := h.1
  unfold laws_eqAppS.f
  by_cases hab : a.length = b.length
  case neg => exact ⟨false, ev_ite_neg (by omega) (Ev.now _), by constructor <;> intro e <;> first | (exact absurd (congrArg List.length e) hab) | simp at e⟩
  suffices hs : ∃ r, Ev (fun k => laws_eqAppS.l0 k a b 0) r ∧ (r = true ↔ a = b) by
    obtain ⟨r, h1, h2⟩ := hs
    exact ⟨r, ev_ite_pos (by omega) h1, h2⟩
  refine eq_loop (fun k i => laws_eqAppS.l0 k a b (i : Int)) a b z90 hab ?_ ?_
  · intro k
    simp only [laws_eqAppS.l0]
    rw [if_neg (by omega)]
  · intro i hi
    refine ⟨fun k => laws_eqApp.f k (a.getD i z90).f0 (b.getD i z90).f0, eq_iff (laws_eqApp_ev (a.getD i z90).f0 (b.getD i z90).f0 (h.2 _ (getD_mem a z90 i hi))) (ext90 _ _), fun k => ?_⟩
    have c1 : (i : Int) < (a.length : Int) := by omega
    have c2 : (0 : Int) ≤ (i : Int) := by omega
    have c3 : (i : Int) < (b.length : Int) := by omega
    simp only [laws_eqAppS.l0, if_pos c1, if_pos c2, if_pos c3, w64n i (by omega)]
    rfl
def cv140 (x : S140) : S121 := ⟨x.f0, x.f1, x.f2, x.f3, x.f4⟩
theorem laws_toOp_ev (a0 : Int) (a1 : Int) (a2 : Int) (a3 : Int) (a4 : Int)  : Ev (fun _ => laws_toOp.f a0 a1 a2 a3 a4) (a0, a1, a2, a3, a4) := by
  unfold laws_toOp.f
  exact Ev.now _
theorem laws_toOpS_ev (l : List (S140)) (h : l.length ≤ 1048576) : Ev (fun k => laws_toOpS.f k l) (l.map cv140) := by
  have hl := h
  unfold laws_toOpS.f
  refine ev_ite_pos (by omega) (ev_ite_pos (by omega) ?_)
  rw [Int.toNat_natCast]
  refine ev_fun (copy_loop (fun k x3 i => laws_toOpS.l0 k l x3 (i : Int)) l z140 z121 (cv140) ?_ ?_) rfl
  · intro k x3
    simp only [laws_toOpS.l0]
    rw [if_neg (by omega)]
  · intro i hi
    refine ⟨fun k => (laws_toOp.f (l.getD i z140).f0 (l.getD i z140).f1 (l.getD i z140).f2 (l.getD i z140).f3 (l.getD i z140).f4).bind fun bt => some (⟨bt.1, bt.2.1, bt.2.2.1, bt.2.2.2.1, bt.2.2.2.2⟩ : S121), Ev.bind (laws_toOp_ev (l.getD i z140).f0 (l.getD i z140).f1 (l.getD i z140).f2 (l.getD i z140).f3 (l.getD i z140).f4) (Ev.now _), fun k x3 hx => ?_⟩
    have c1 : (i : Int) < (l.length : Int) := by omega
    have c2 : (0 : Int) ≤ (i : Int) := by omega
    have c3 : (i : Int) < (x3.length : Int) := by omega
    simp only [laws_toOpS.l0, if_pos c1, if_pos c2, if_pos c3, w64n i (by omega), Int.toNat_natCast, Option.bind_assoc, Option.bind_some]
    rfl
def cv133 (x : S133) : S94 := ⟨x.f0, x.f1.map cv140⟩
theorem laws_toRule_ev (a0 : Int) (l1 : List (S140)) (h_l1 : l1.length ≤ 1048576) : Ev (fun k => laws_toRule.f k a0 l1) (a0, l1.map cv140) := by
  unfold laws_toRule.f
  refine Ev.bind (laws_toOpS_ev l1 h_l1) ?_
  exact Ev.now _
theorem laws_toRuleS_ev (l : List (S133)) (h : l.length ≤ 1048576 ∧ ∀ s0_ ∈ l, Sm133 s0_) : Ev (fun k => laws_toRuleS.f k l) (l.map cv133) := by
  have hl := h.1
  unfold laws_toRuleS.f
  refine ev_ite_pos (by omega) (ev_ite_pos (by omega) ?_)
  rw [Int.toNat_natCast]
  refine ev_fun (copy_loop (fun k x3 i => laws_toRuleS.l0 k l x3 (i : Int)) l z133 z94 (cv133) ?_ ?_) rfl
  · intro k x3
    simp only [laws_toRuleS.l0]
    rw [if_neg (by omega)]
  · intro i hi
    refine ⟨fun k => (laws_toRule.f k (l.getD i z133).f0 (l.getD i z133).f1).bind fun bt => some (⟨bt.1, bt.2⟩ : S94), Ev.bind (laws_toRule_ev (l.getD i z133).f0 (l.getD i z133).f1 (h.2 _ (getD_mem l z133 i hi))) (Ev.now _), fun k x3 hx => ?_⟩
    have c1 : (i : Int) < (l.length : Int) := by omega
    have c2 : (0 : Int) ≤ (i : Int) := by omega
    have c3 : (i : Int) < (x3.length : Int) := by omega
    simp only [laws_toRuleS.l0, if_pos c1, if_pos c2, if_pos c3, w64n i (by omega), Int.toNat_natCast, Option.bind_assoc, Option.bind_some]
    rfl
def cv87 (x : S87) : S90 := ⟨x.f0.map cv133⟩
theorem laws_toApp_ev (l0 : List (S133)) (h_l0 : l0.length ≤ 1048576 ∧ ∀ s0_ ∈ l0, Sm133 s0_) : Ev (fun k => laws_toApp.f k l0) (l0.map cv133) := by
  unfold laws_toApp.f
  refine Ev.bind (laws_toRuleS_ev l0 h_l0) ?_
  exact Ev.now _
theorem laws_toAppS_ev (l : List (S87)) (h : l.length ≤ 1048576 ∧ ∀ s0_ ∈ l, Sm87 s0_) : Ev (fun k => laws_toAppS.f k l) (l.map cv87) := by
  have hl := h.1
  unfold laws_toAppS.f
  refine ev_ite_pos (by omega) (ev_ite_pos (by omega) ?_)
  rw [Int.toNat_natCast]
  refine ev_fun (copy_loop (fun k x3 i => laws_toAppS.l0 k l x3 (i : Int)) l z87 z90 (cv87) ?_ ?_) rfl
  · intro k x3
    simp only [laws_toAppS.l0]
    rw [if_neg (by omega)]
  · intro i hi
    refine ⟨fun k => (laws_toApp.f k (l.getD i z87).f0).bind fun bt => some (⟨bt⟩ : S90), Ev.bind (laws_toApp_ev (l.getD i z87).f0 (h.2 _ (getD_mem l z87 i hi))) (Ev.now _), fun k x3 hx => ?_⟩
    have c1 : (i : Int) < (l.length : Int) := by omega
    have c2 : (0 : Int) ≤ (i : Int) := by omega
    have c3 : (i : Int) < (x3.length : Int) := by omega
    simp only [laws_toAppS.l0, if_pos c1, if_pos c2, if_pos c3, w64n i (by omega), Int.toNat_natCast, Option.bind_assoc, Option.bind_some]
    rfl
theorem smcv140 (x : S140) (h : Sm140 x) : Sm121 (cv140 x) := trivial
theorem laws_toOpS_sm (l : List (S140)) (h : l.length ≤ 1048576) : (l.map cv140).length ≤ 1048576 := by rw [List.length_map]; exact h
theorem smcv133 (x : S133) (h : Sm133 x) : Sm94 (cv133 x) := laws_toOpS_sm _ h
theorem laws_toRuleS_sm (l : List (S133)) (h : l.length ≤ 1048576 ∧ ∀ s0_ ∈ l, Sm133 s0_) : (l.map cv133).length ≤ 1048576 ∧ ∀ s0_ ∈ (l.map cv133), Sm94 s0_ := by
  refine ⟨by rw [List.length_map]; exact h.1, fun x hx => ?_⟩
  obtain ⟨y, hy, rfl⟩ := List.mem_map.1 hx
  exact smcv133 y (h.2 y hy)
theorem smcv87 (x : S87) (h : Sm87 x) : Sm90 (cv87 x) := laws_toRuleS_sm _ h
theorem laws_toAppS_sm (l : List (S87)) (h : l.length ≤ 1048576 ∧ ∀ s0_ ∈ l, Sm87 s0_) : (l.map cv87).length ≤ 1048576 ∧ ∀ s0_ ∈ (l.map cv87), Sm90 s0_ := by
  refine ⟨by rw [List.length_map]; exact h.1, fun x hx => ?_⟩
  obtain ⟨y, hy, rfl⟩ := List.mem_map.1 hx
  exact smcv87 y (h.2 y hy)

end Go.Proofs.Ytagkoaalbapnmaa.XAppOk
