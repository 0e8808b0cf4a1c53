/- What the laws measure is a sum: no more things are in a node than were measured. -/
import Derived.Test.YtkggdegpdmnjoaaGreatOkPlFnExactNodeKeep
import Derived.Test.YtkggdegpdmnjoaaGreatNodeSzPlFnExactNodeKeep
set_option linter.unusedVariables false
set_option linter.unusedSimpArgs false
namespace Go.Proofs.YtkggdegpdmnjoaaGreat.SFnExactNodeKeep
open Go Go.Sx Go.Pl

def sumN {α : Type} (f : α → Nat) (l : List α) : Nat := (l.map f).sum
theorem sumN_drop {α : Type} (f : α → Nat) (l : List α) (d : α) (i : Nat) (h : i < l.length) : sumN f (l.drop i) = f (l.getD i d) + sumN f (l.drop (i + 1)) := by
  unfold sumN
  rw [getD_drop l d i h, List.map_cons, List.sum_cons]
theorem sumN_le {α : Type} {f g : α → Nat} {c : Nat} (h : ∀ x, f x ≤ c * g x) (l : List α) : sumN f l ≤ c * sumN g l := by
  unfold sumN
  induction l with
  | nil => simp
  | cons x l ih => simp only [List.map_cons, List.sum_cons, Nat.mul_add]; have := h x; omega
theorem sumN_add {α : Type} {f g : α → Nat} {a b : Nat} (h : ∀ x, f x ≤ a + b * g x) (l : List α) : sumN f l ≤ a * l.length + b * sumN g l := by
  unfold sumN
  induction l with
  | nil => simp
  | cons x l ih => simp only [List.map_cons, List.sum_cons, List.length_cons, Nat.mul_add]; have := h x; omega
/-- What is left, if anything, is less by that many. -/
def SzW (f : Nat → Option Int) (n : Nat) (c : Int) : Prop := ∃ r : Int, Ev f r ∧ (0 ≤ r → (n : Int) + r ≤ c)
theorem SzW.of {f : Nat → Option Int} {n : Nat} {c r : Int} (h : SzW f n c) (hr : Ev f r) (h0 : 0 ≤ r) : (n : Int) + r ≤ c := by
  obtain ⟨r', h1, h2⟩ := h
  have := Ev.inj h1 hr
  subst this
  exact h2 h0
theorem SzW.step {f g : Nat → Option Int} {n : Nat} {c : Int} (h : ∀ k, f (k + 1) = g k) (hg : SzW g n c) : SzW f n c := by
  obtain ⟨r, h1, h2⟩ := hg
  exact ⟨r, Ev.step h h1, h2⟩
theorem SzW.and {s : Nat → Option Int} {g : Nat → Int → Option Int} {n m : Nat} {c : Int} (hs : SzW s n c) (h1 : c ≤ 1048576) (hg : ∀ r : Int, 0 ≤ r → r ≤ 1048576 → SzW (fun k => g k r) m r) : SzW (fun k => (s k).bind fun t => cond (decide (t < 0)) (some (-1)) (g k t)) (n + m) c := by
  obtain ⟨r, h2, h3⟩ := hs
  by_cases hr : r < 0
  · refine ⟨-1, Ev.bind h2 ?_, by omega⟩
    simp only [decide_eq_true hr, cond_true]; exact Ev.now _
  · have h3 := h3 (by omega)
    obtain ⟨r', h4, h5⟩ := hg r (by omega) (by omega)
    refine ⟨r', Ev.bind h2 ?_, fun h => by have := h5 h; omega⟩
    simp only [decide_eq_false hr, cond_false]; exact h4
theorem SzW.now {c : Int} : SzW (fun _ => some c) 0 c := ⟨c, Ev.now _, fun _ => by omega⟩
theorem SzW.end_ {s : Nat → Option Int} {n : Nat} {c : Int} (hs : SzW s n c) (h1 : c ≤ 1048576) : SzW (fun k => (s k).bind fun t => cond (decide (t < 0)) (some (-1)) (some t)) n c :=
  SzW.and (m := 0) (g := fun _ t => some t) hs h1 fun r _ _ => SzW.now
theorem szW_flat {n : Nat} {c : Int} (h0 : 0 ≤ c) (h1 : c ≤ 1048576) (hl : n ≤ maxLen) :
    SzW (fun _ => cond (decide (IntKind.i64.wrap (c - (n : Int)) < 0)) (some (-1)) (some (IntKind.i64.wrap (c - (n : Int))))) n c := by
  rw [szW h0 h1 hl]
  by_cases hn : c - (n : Int) < 0
  · rw [decide_eq_true hn]; exact ⟨-1, Ev.now _, by omega⟩
  · rw [decide_eq_false hn]; exact ⟨c - n, Ev.now _, by omega⟩
theorem szW_list {α : Type} (f : Nat → Option Int) (L : Nat → Nat → Int → Nat → Option Int) (l : List α) (d : α) (wt : α → Nat) (c : Int) (h0 : 0 ≤ c) (h1 : c ≤ 1048576) (hl : l.length ≤ maxLen)
    (hf : ∀ k, f (k + 1) = cond (decide (IntKind.i64.wrap (c - (l.length : Int)) < 0)) (some (-1)) (L k k (IntKind.i64.wrap (c - (l.length : Int))) 0)) (hend : ∀ k j c, L k (j + 1) c l.length = some c)
    (hst : ∀ i, i < l.length → ∀ c : Int, 0 ≤ c → c ≤ 1048576 → ∃ g, SzW g (wt (l.getD i d)) c ∧ ∀ k j, L k (j + 1) c i = (g k).bind fun t => cond (decide (t < 0)) (some (-1)) (L k j t (i + 1))) : SzW f (l.length + sumN wt l) c := by
  have key : ∀ m i (c : Int), i + m = l.length → 0 ≤ c → c ≤ 1048576 → ∃ r, EvL (fun k j => L k j c i) r ∧ (0 ≤ r → (sumN wt (l.drop i) : Int) + r ≤ c) := by
    intro m
    induction m with
    | zero =>
      intro i c hi hc0 hc1
      obtain rfl : i = l.length := by omega
      refine ⟨c, EvL.step (M := fun _ _ => some c) (fun k j => hend k j c) (EvL.now _), fun _ => ?_⟩
      rw [List.drop_length]; simp [sumN]
    | succ m ih =>
      intro i c hi hc0 hc1
      obtain ⟨g, ⟨r, hg, hr2⟩, hs⟩ := hst i (by omega) c hc0 hc1
      by_cases hr : r < 0
      · refine ⟨-1, EvL.step hs (EvL.bind hg (EvL.cond (fun _ => EvL.now _) fun h => ?_)), by omega⟩
        rw [decide_eq_true hr] at h; cases h
      · have hr2 := hr2 (by omega)
        obtain ⟨r', h2, h4⟩ := ih (i + 1) r (by omega) (by omega) (by omega)
        refine ⟨r', EvL.step hs (EvL.bind hg (EvL.cond (fun h => ?_) fun _ => h2)), fun h5 => ?_⟩
        · rw [decide_eq_false hr] at h; cases h
        · have := h4 h5
          rw [sumN_drop wt l d i (by omega)]
          omega
  rw [szW h0 h1 hl] at hf
  by_cases hn : c - (l.length : Int) < 0
  · refine ⟨-1, Ev.step hf ?_, by omega⟩
    rw [decide_eq_true hn]; exact Ev.now _
  · obtain ⟨r, h2, h3⟩ := key l.length 0 (c - (l.length : Int)) (by omega) (by omega) (by omega)
    refine ⟨r, Ev.step hf ?_, fun h => ?_⟩
    · simp only [decide_eq_false hn, cond_false]
      exact EvL.ev (L := fun k j => L k j (c - (l.length : Int)) 0) h2
    · have := h3 h
      rw [List.drop_zero] at this
      omega
theorem szEventS_W (l : List Ev7) (c : Int) (h0 : 0 ≤ c) (h1 : c ≤ 1048576) (hl : l.length ≤ maxLen) : SzW (fun k => laws_szEventS k l c) l.length c := SzW.step (fun k => laws_szEventS_eq k l c) (szW_flat h0 h1 hl)
theorem szOutS_W (l : List Ou5) (c : Int) (h0 : 0 ≤ c) (h1 : c ≤ 1048576) (hl : l.length ≤ maxLen) : SzW (fun k => laws_szOutS k l c) l.length c := SzW.step (fun k => laws_szOutS_eq k l c) (szW_flat h0 h1 hl)
theorem szIntS_W (l : List Int) (c : Int) (h0 : 0 ≤ c) (h1 : c ≤ 1048576) (hl : l.length ≤ maxLen) : SzW (fun k => laws_szIntS k l c) l.length c := SzW.step (fun k => laws_szIntS_eq k l c) (szW_flat h0 h1 hl)
def wPa (x : Pa) : Nat := x.2.2.1.length + x.2.2.2.length
def wPs (l : List Pa) : Nat := l.length + sumN wPa l
def wLa (x : La) : Nat := wPs x.2.2
def wLs (l : List La) : Nat := l.length + sumN wLa l
def wVw (x : Vw) : Nat := x.2.2.length
def wVs (l : List Vw) : Nat := l.length + sumN wVw l
def wNd (n : Nd) : Nat := wLs n.2.2.2.2.1 + (n.2.2.2.2.2.1.length + (n.2.2.2.2.2.2.1.length + (wVs n.2.2.2.2.2.2.2.2.2.1 + n.2.2.2.2.2.2.2.2.2.2.1.length)))
theorem szPast_W (x : Pa) (c : Int) (h0 : 0 ≤ c) (h1 : c ≤ 1048576) (hl : LongPa x) : SzW (fun k => laws_szPast k x c) (wPa x) c :=
  SzW.step (fun k => laws_szPast_eq k x c) (SzW.and (szEventS_W _ c h0 h1 hl.1) h1 fun r hr hr1 => SzW.end_ (szOutS_W _ r hr hr1 hl.2) hr1)
theorem szPastS_W (l : List Pa) (c : Int) (h0 : 0 ≤ c) (h1 : c ≤ 1048576) (hl : l.length ≤ maxLen) (hx : ∀ x ∈ l, LongPa x) : SzW (fun k => laws_szPastS k l c) (wPs l) c := by
  refine szW_list (fun k => laws_szPastS k l c) (fun k j c i => laws_szPastS_5 k j l c (i : Int)) l (dflt t_laws_Past) wPa c h0 h1 hl (fun k => laws_szPastS_eq k l c) (fun k j c => ?_) fun i hi c h0 h1 => ⟨_, szPast_W _ c h0 h1 (hx _ (getD_mem _ (dflt t_laws_Past) i hi)), fun k j => ?_⟩
  · rw [laws_szPastS_5_eq, decide_eq_false (by omega), cond_false]
  · have c1 : (i : Int) < (l.length : Int) := by omega
    have c2 : (0 : Int) ≤ (i : Int) := by omega
    have hb : i < 9223372036854775807 := by unfold maxLen at hl; omega
    rw [laws_szPastS_5_eq]
    simp only [decide_eq_true c1, decide_eq_true c2, cond_true, Int.toNat_natCast, w64n i hb]
theorem szLane_W (x : La) (c : Int) (h0 : 0 ≤ c) (h1 : c ≤ 1048576) (hl : LongLa x) : SzW (fun k => laws_szLane k x c) (wLa x) c :=
  SzW.step (fun k => laws_szLane_eq k x c) (SzW.end_ (szPastS_W _ c h0 h1 hl.1 hl.2) h1)
theorem szLaneS_W (l : List La) (c : Int) (h0 : 0 ≤ c) (h1 : c ≤ 1048576) (hl : l.length ≤ maxLen) (hx : ∀ x ∈ l, LongLa x) : SzW (fun k => laws_szLaneS k l c) (wLs l) c := by
  refine szW_list (fun k => laws_szLaneS k l c) (fun k j c i => laws_szLaneS_5 k j l c (i : Int)) l (dflt t_laws_Lane) wLa c h0 h1 hl (fun k => laws_szLaneS_eq k l c) (fun k j c => ?_) fun i hi c h0 h1 => ⟨_, szLane_W _ c h0 h1 (hx _ (getD_mem _ (dflt t_laws_Lane) i hi)), fun k j => ?_⟩
  · rw [laws_szLaneS_5_eq, decide_eq_false (by omega), cond_false]
  · have c1 : (i : Int) < (l.length : Int) := by omega
    have c2 : (0 : Int) ≤ (i : Int) := by omega
    have hb : i < 9223372036854775807 := by unfold maxLen at hl; omega
    rw [laws_szLaneS_5_eq]
    simp only [decide_eq_true c1, decide_eq_true c2, cond_true, Int.toNat_natCast, w64n i hb]
theorem szView_W (x : Vw) (c : Int) (h0 : 0 ≤ c) (h1 : c ≤ 1048576) (hl : LongVw x) : SzW (fun k => laws_szView k x c) (wVw x) c :=
  SzW.step (fun k => laws_szView_eq k x c) (SzW.end_ (szEventS_W _ c h0 h1 hl) h1)
theorem szViewS_W (l : List Vw) (c : Int) (h0 : 0 ≤ c) (h1 : c ≤ 1048576) (hl : l.length ≤ maxLen) (hx : ∀ x ∈ l, LongVw x) : SzW (fun k => laws_szViewS k l c) (wVs l) c := by
  refine szW_list (fun k => laws_szViewS k l c) (fun k j c i => laws_szViewS_5 k j l c (i : Int)) l (dflt t_laws_View) wVw c h0 h1 hl (fun k => laws_szViewS_eq k l c) (fun k j c => ?_) fun i hi c h0 h1 => ⟨_, szView_W _ c h0 h1 (hx _ (getD_mem _ (dflt t_laws_View) i hi)), fun k j => ?_⟩
  · rw [laws_szViewS_5_eq, decide_eq_false (by omega), cond_false]
  · have c1 : (i : Int) < (l.length : Int) := by omega
    have c2 : (0 : Int) ≤ (i : Int) := by omega
    have hb : i < 9223372036854775807 := by unfold maxLen at hl; omega
    rw [laws_szViewS_5_eq]
    simp only [decide_eq_true c1, decide_eq_true c2, cond_true, Int.toNat_natCast, w64n i hb]
theorem szNode_W (n : Nd) (c : Int) (h0 : 0 ≤ c) (h1 : c ≤ 1048576) (hl : LongNd n) : SzW (fun k => laws_szNode k n c) (wNd n) c :=
  SzW.step (fun k => laws_szNode_eq k n c) (SzW.and (szLaneS_W _ c h0 h1 hl.lanes hl.lane) h1 fun r hr hr1 => SzW.and (szEventS_W _ r hr hr1 hl.kept) hr1 fun r hr hr1 => SzW.and (szOutS_W _ r hr hr1 hl.outs) hr1 fun r hr hr1 =>
    SzW.and (szViewS_W _ r hr hr1 hl.views hl.view) hr1 fun r hr hr1 => SzW.end_ (szIntS_W _ r hr hr1 hl.known) hr1)
end Go.Proofs.YtkggdegpdmnjoaaGreat.SFnExactNodeKeep
