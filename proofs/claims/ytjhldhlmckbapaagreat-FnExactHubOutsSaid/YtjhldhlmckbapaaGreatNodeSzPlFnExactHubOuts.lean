/- The laws' own helpers for nodes: what is measured, carried over, compared. -/
import Derived.Test.YtjhldhlmckbapaaGreatNodeOkPlFnExactHubOuts
set_option linter.unusedVariables false
set_option linter.unusedSimpArgs false
namespace Go.Proofs.YtjhldhlmckbapaaGreat.SFnExactHubOuts
open Go Go.Sx Go.Pl

def LongLa (x : La) : Prop := x.2.2.length ≤ maxLen ∧ ∀ y ∈ x.2.2, LongPa y
def LongVw (x : Vw) : Prop := x.2.2.length ≤ maxLen
def SmallVw (x : Vw) : Prop := x.2.2.length ≤ 1048576
theorem szView (x : Vw) (c : Int) (h0 : 0 ≤ c) (h1 : c ≤ 1048576) (hl : LongVw x) : ∃ r : Int, Ev (fun k => laws_szView k x c) r ∧ r ≤ 1048576 ∧ (0 ≤ r → SmallVw x) := by
  obtain ⟨r, h2, h3, h4⟩ := sz_end (szEventS x.2.2 c h0 h1 hl)
  exact ⟨r, Ev.step (fun k => laws_szView_eq k x c) h2, h3, h4⟩
theorem toView (x : Vw) (h : SmallVw x) : Ev (fun k => laws_toView k x) x := by
  refine Ev.step (fun k => laws_toView_eq k x) ?_
  exact Ev.bind (toEventS _ h) (Ev.now _)
instance decVw : DecidableEq Vw := fun a b => inferInstance
theorem eqView (x y : Vw) (h : SmallVw x) : Ev (fun k => laws_eqView k x y) (decide (x = y)) := by
  refine Ev.step (fun k => laws_eqView_eq k x y) ?_
  by_cases h0 : x.1 = y.1
  · have e0 : (x.1 != y.1) = false := by simpa using h0
    by_cases h1 : x.2.1 = y.2.1
    · have e1 : (x.2.1 != y.2.1) = false := by simpa using h1
      simp only [e0, e1, cond_false]
      exact eq_and (q := True) (eqEventS _ _ h) (fun _ => eq_done trivial) (by rw [Prod.ext_iff, Prod.ext_iff]; simp [h0, h1])
    · have e1 : (x.2.1 != y.2.1) = true := by simpa using h1
      simp only [e0, e1, cond_true, cond_false]
      exact (Ev.now _).to (by rw [decide_eq_false (fun e => h1 (by rw [e]))])
  · have e0 : (x.1 != y.1) = true := by simpa using h0
    simp only [e0, cond_true]
    exact (Ev.now _).to (by rw [decide_eq_false (fun e => h0 (by rw [e]))])
theorem szLaneS (l : List La) (c : Int) (h0 : 0 ≤ c) (h1 : c ≤ 1048576) (hl : l.length ≤ maxLen) (hx : ∀ x ∈ l, LongLa x) : ∃ r : Int, Ev (fun k => laws_szLaneS k l c) r ∧ r ≤ 1048576 ∧ (0 ≤ r → l.length ≤ 1048576 ∧ ∀ x ∈ l, SmallLa x) := by
  by_cases hn : c - (l.length : Int) < 0
  · refine ⟨-1, Ev.step (fun k => laws_szLaneS_eq k l c) ?_, by decide, fun h => absurd h (by decide)⟩
    rw [szW h0 h1 hl, decide_eq_true hn]; exact Ev.now _
  · have hend : ∀ k j c, laws_szLaneS_5 k (j + 1) l c (l.length : Int) = some c := fun k j c => by
      rw [laws_szLaneS_5_eq, decide_eq_false (by omega), cond_false]
    obtain ⟨r, h2, h3, h4⟩ := sz_loop (fun k j c i => laws_szLaneS_5 k j l c (i : Int)) l (dflt t_laws_Lane) SmallLa hend (fun i hi c h0 h1 => by
      have hm := hx _ (getD_mem l (dflt t_laws_Lane) i hi)
      obtain ⟨r, h2, h3, h4⟩ := szLane (l.getD i (dflt t_laws_Lane)) c h0 h1 hm.1 hm.2
      refine ⟨fun k => laws_szLane k (l.getD i (dflt t_laws_Lane)) c, r, h2, h3, h4, fun k j => ?_⟩
      have c1 : (i : Int) < (l.length : Int) := by omega
      have c2 : (0 : Int) ≤ (i : Int) := by omega
      have hb : i < 9223372036854775807 := by unfold maxLen at hl; omega
      rw [laws_szLaneS_5_eq]
      simp only [decide_eq_true c1, decide_eq_true c2, cond_true, Int.toNat_natCast, w64n i hb]) (c - l.length) (by omega) (by omega)
    refine ⟨r, Ev.step (fun k => laws_szLaneS_eq k l c) ?_, h3, fun h => ⟨by omega, h4 h⟩⟩
    rw [szW h0 h1 hl, decide_eq_false hn]
    simp only [cond_false]
    refine EvL.ev (L := fun k j => laws_szLaneS_5 k j l (c - l.length) 0) ?_
    exact h2
theorem toLaneS (l : List La) (h : l.length ≤ 1048576) (hx : ∀ x ∈ l, SmallLa x) : Ev (fun k => laws_toLaneS k l) l := by
  refine Ev.step (fun k => laws_toLaneS_eq k l) ?_
  simp only [Int.le_refl, decide_true, cond_true, Int.toNat_natCast]
  rw [decide_eq_true (by omega)]
  simp only [cond_true]
  refine EvL.ev (L := fun k j => laws_toLaneS_3 k j l 0 (List.replicate l.length (dflt t_impl_Lane))) ?_
  refine (copy_loop (fun k j x i => laws_toLaneS_3 k j l (i : Int) x) l (dflt t_laws_Lane) (dflt t_impl_Lane) id (fun k j x => ?_) fun i hi => ⟨fun k => laws_toLane k (l.getD i (dflt t_laws_Lane)), toLane _ (hx _ (getD_mem _ _ _ hi)), fun k j x hx => ?_⟩).to (List.map_id l)
  · rw [laws_toLaneS_3_eq, decide_eq_false (by omega)]; rfl
  · have c1 : (i : Int) < (l.length : Int) := by omega
    have c2 : (0 : Int) ≤ (i : Int) := by omega
    have c3 : (i : Int) < (x.length : Int) := by omega
    have c4 : i < x.length := by omega
    rw [laws_toLaneS_3_eq]
    simp only [decide_eq_true c1, decide_eq_true c2, decide_eq_true c3, decide_eq_true c4, cond_true, Int.toNat_natCast, w64n i (by omega)]
theorem eqLaneS (l m : List La) (h : l.length ≤ 1048576) (hx : ∀ x ∈ l, SmallLa x) : Ev (fun k => laws_eqLaneS k l m) (decide (l = m)) := by
  refine Ev.step (fun k => laws_eqLaneS_eq k l m) (len_ne fun hl => ?_)
  refine EvL.ev (L := fun k j => laws_eqLaneS_4 k j l m 0) ?_
  refine eq_loop (fun k j i => laws_eqLaneS_4 k j l m (i : Int)) l m (dflt t_impl_Lane) hl (fun k j => ?_) fun i hi => ⟨fun k => laws_eqLane k (l.getD i (dflt t_impl_Lane)) (m.getD i (dflt t_impl_Lane)), eqLane _ _ (hx _ (getD_mem _ _ _ hi)), fun k j => ?_⟩
  · rw [laws_eqLaneS_4_eq, decide_eq_false (by omega)]; rfl
  · have c1 : (i : Int) < (l.length : Int) := by omega
    have c2 : (0 : Int) ≤ (i : Int) := by omega
    have c3 : (i : Int) < (m.length : Int) := by omega
    rw [laws_eqLaneS_4_eq]
    simp only [decide_eq_true c1, decide_eq_true c2, decide_eq_true c3, cond_true, Int.toNat_natCast, w64n i (by omega)]
theorem szViewS (l : List Vw) (c : Int) (h0 : 0 ≤ c) (h1 : c ≤ 1048576) (hl : l.length ≤ maxLen) (hx : ∀ x ∈ l, LongVw x) : ∃ r : Int, Ev (fun k => laws_szViewS k l c) r ∧ r ≤ 1048576 ∧ (0 ≤ r → l.length ≤ 1048576 ∧ ∀ x ∈ l, SmallVw x) := by
  by_cases hn : c - (l.length : Int) < 0
  · refine ⟨-1, Ev.step (fun k => laws_szViewS_eq k l c) ?_, by decide, fun h => absurd h (by decide)⟩
    rw [szW h0 h1 hl, decide_eq_true hn]; exact Ev.now _
  · have hend : ∀ k j c, laws_szViewS_5 k (j + 1) l c (l.length : Int) = some c := fun k j c => by
      rw [laws_szViewS_5_eq, decide_eq_false (by omega), cond_false]
    obtain ⟨r, h2, h3, h4⟩ := sz_loop (fun k j c i => laws_szViewS_5 k j l c (i : Int)) l (dflt t_laws_View) SmallVw hend (fun i hi c h0 h1 => by
      have hm := hx _ (getD_mem l (dflt t_laws_View) i hi)
      obtain ⟨r, h2, h3, h4⟩ := szView (l.getD i (dflt t_laws_View)) c h0 h1 hm
      refine ⟨fun k => laws_szView k (l.getD i (dflt t_laws_View)) c, r, h2, h3, h4, fun k j => ?_⟩
      have c1 : (i : Int) < (l.length : Int) := by omega
      have c2 : (0 : Int) ≤ (i : Int) := by omega
      have hb : i < 9223372036854775807 := by unfold maxLen at hl; omega
      rw [laws_szViewS_5_eq]
      simp only [decide_eq_true c1, decide_eq_true c2, cond_true, Int.toNat_natCast, w64n i hb]) (c - l.length) (by omega) (by omega)
    refine ⟨r, Ev.step (fun k => laws_szViewS_eq k l c) ?_, h3, fun h => ⟨by omega, h4 h⟩⟩
    rw [szW h0 h1 hl, decide_eq_false hn]
    simp only [cond_false]
    refine EvL.ev (L := fun k j => laws_szViewS_5 k j l (c - l.length) 0) ?_
    exact h2
theorem toViewS (l : List Vw) (h : l.length ≤ 1048576) (hx : ∀ x ∈ l, SmallVw x) : Ev (fun k => laws_toViewS k l) l := by
  refine Ev.step (fun k => laws_toViewS_eq k l) ?_
  simp only [Int.le_refl, decide_true, cond_true, Int.toNat_natCast]
  rw [decide_eq_true (by omega)]
  simp only [cond_true]
  refine EvL.ev (L := fun k j => laws_toViewS_3 k j l 0 (List.replicate l.length (dflt t_impl_View))) ?_
  refine (copy_loop (fun k j x i => laws_toViewS_3 k j l (i : Int) x) l (dflt t_laws_View) (dflt t_impl_View) id (fun k j x => ?_) fun i hi => ⟨fun k => laws_toView k (l.getD i (dflt t_laws_View)), toView _ (hx _ (getD_mem _ _ _ hi)), fun k j x hx => ?_⟩).to (List.map_id l)
  · rw [laws_toViewS_3_eq, decide_eq_false (by omega)]; rfl
  · have c1 : (i : Int) < (l.length : Int) := by omega
    have c2 : (0 : Int) ≤ (i : Int) := by omega
    have c3 : (i : Int) < (x.length : Int) := by omega
    have c4 : i < x.length := by omega
    rw [laws_toViewS_3_eq]
    simp only [decide_eq_true c1, decide_eq_true c2, decide_eq_true c3, decide_eq_true c4, cond_true, Int.toNat_natCast, w64n i (by omega)]
theorem eqViewS (l m : List Vw) (h : l.length ≤ 1048576) (hx : ∀ x ∈ l, SmallVw x) : Ev (fun k => laws_eqViewS k l m) (decide (l = m)) := by
  refine Ev.step (fun k => laws_eqViewS_eq k l m) (len_ne fun hl => ?_)
  refine EvL.ev (L := fun k j => laws_eqViewS_4 k j l m 0) ?_
  refine eq_loop (fun k j i => laws_eqViewS_4 k j l m (i : Int)) l m (dflt t_impl_View) hl (fun k j => ?_) fun i hi => ⟨fun k => laws_eqView k (l.getD i (dflt t_impl_View)) (m.getD i (dflt t_impl_View)), eqView _ _ (hx _ (getD_mem _ _ _ hi)), fun k j => ?_⟩
  · rw [laws_eqViewS_4_eq, decide_eq_false (by omega)]; rfl
  · have c1 : (i : Int) < (l.length : Int) := by omega
    have c2 : (0 : Int) ≤ (i : Int) := by omega
    have c3 : (i : Int) < (m.length : Int) := by omega
    rw [laws_eqViewS_4_eq]
    simp only [decide_eq_true c1, decide_eq_true c2, decide_eq_true c3, cond_true, Int.toNat_natCast, w64n i (by omega)]

structure LongNd (n : Nd) : Prop where
  lanes : n.2.2.2.2.1.length ≤ maxLen
  lane : ∀ x ∈ n.2.2.2.2.1, LongLa x
  kept : n.2.2.2.2.2.1.length ≤ maxLen
  outs : n.2.2.2.2.2.2.1.length ≤ maxLen
  views : n.2.2.2.2.2.2.2.2.2.1.length ≤ maxLen
  view : ∀ x ∈ n.2.2.2.2.2.2.2.2.2.1, LongVw x
  known : n.2.2.2.2.2.2.2.2.2.2.1.length ≤ maxLen
theorem goodNd (n : Nd) (h : Go.Sx.Good t_laws_Node n) : LongNd n := by
  obtain ⟨_, _, _, _, h1, h2, h3, _, _, h4, h5, _⟩ := h
  refine ⟨h1.1, fun x hx => ?_, h2.1, h3.1, h4.1, fun x hx => ?_, h5.1⟩
  · obtain ⟨_, _, g1, g2⟩ := h1.2 x hx
    exact ⟨g1, fun y hy => ⟨(g2 y hy).2.2.1.1, (g2 y hy).2.2.2.1⟩⟩
  · obtain ⟨_, _, g⟩ := h4.2 x hx
    exact g.1
theorem szNode (n : Nd) (c : Int) (h0 : 0 ≤ c) (h1 : c ≤ 1048576) (hl : LongNd n) : ∃ r : Int, Ev (fun k => laws_szNode k n c) r ∧ r ≤ 1048576 ∧ (0 ≤ r → SmallNd n) := by
  obtain ⟨r1, b1, c1, d1⟩ := szLaneS n.2.2.2.2.1 c h0 h1 hl.lanes hl.lane
  obtain ⟨r, e1, e2, e3⟩ := sz_and (q := n.2.2.2.2.2.1.length ≤ 1048576 ∧ n.2.2.2.2.2.2.1.length ≤ 1048576 ∧ (n.2.2.2.2.2.2.2.2.2.1.length ≤ 1048576 ∧ ∀ x ∈ n.2.2.2.2.2.2.2.2.2.1, SmallVw x) ∧ n.2.2.2.2.2.2.2.2.2.2.1.length ≤ 1048576) (g := fun k x0 => (laws_szEventS k n.2.2.2.2.2.1 x0).bind fun x1 => cond (decide (x1 < 0)) (some (-1)) ((laws_szOutS k n.2.2.2.2.2.2.1 x1).bind fun x2 => cond (decide (x2 < 0)) (some (-1)) ((laws_szViewS k n.2.2.2.2.2.2.2.2.2.1 x2).bind fun x3 => cond (decide (x3 < 0)) (some (-1)) ((laws_szIntS k n.2.2.2.2.2.2.2.2.2.2.1 x3).bind fun x4 => cond (decide (x4 < 0)) (some (-1)) (some x4))))) b1 c1 d1 fun hr => by
    obtain ⟨r2, b2, c2, d2⟩ := szEventS n.2.2.2.2.2.1 r1 hr c1 hl.kept
    exact sz_and b2 c2 d2 fun hr2 => by
      obtain ⟨r3, b3, c3, d3⟩ := szOutS n.2.2.2.2.2.2.1 r2 hr2 c2 hl.outs
      exact sz_and b3 c3 d3 fun hr3 => by
        obtain ⟨r4, b4, c4, d4⟩ := szViewS n.2.2.2.2.2.2.2.2.2.1 r3 hr3 c3 hl.views hl.view
        exact sz_and b4 c4 d4 fun hr4 => sz_end (szIntS n.2.2.2.2.2.2.2.2.2.2.1 r4 hr4 c4 hl.known)
  refine ⟨r, Ev.step (fun k => laws_szNode_eq k n c) e1, e2, fun h => ?_⟩
  obtain ⟨⟨f1, f2⟩, f3, f4, ⟨f5, f6⟩, f7⟩ := e3 h
  exact ⟨f1, f2, f3, f4, f5, f6, f7⟩
theorem toNode (n : Nd) (h : SmallNd n) : Ev (fun k => laws_toNode k n) n := by
  refine Ev.step (fun k => laws_toNode_eq k n) ?_
  exact Ev.bind (toLaneS _ h.lanes h.lane) (Ev.bind (toEventS _ h.kept) (Ev.bind (toOutS _ h.outs) (Ev.bind (toViewS _ h.views h.view) (Ev.bind (toIntS _ h.known) (Ev.now _)))))
theorem eqNode (n : Nd) (h : SmallNd n) : Ev (fun k => laws_eqNode k n n) true := by
  have hb : ∀ b : Bool, (!b == b) = false := by decide
  have one : ∀ {g : Nat → Option Bool} {f : Nat → Option Bool}, Ev g true → Ev f true → Ev (fun k => (g k).bind fun x => cond (!x) (some false) (f k)) true := fun hg hf => Ev.bind hg hf
  refine Ev.step (fun k => laws_eqNode_eq k n n) ?_
  simp only [bne_self_eq_false, hb, cond_false]
  exact one ((eqLaneS _ _ h.lanes h.lane).to (by simp)) (one ((eqEventS _ _ h.kept).to (by simp)) (one ((eqOutS _ _ h.outs).to (by simp)) (one ((eqViewS _ _ h.views h.view).to (by simp)) (one ((eqIntS _ _ h.known).to (by simp)) (Ev.now _)))))
end Go.Proofs.YtjhldhlmckbapaaGreat.SFnExactHubOuts
