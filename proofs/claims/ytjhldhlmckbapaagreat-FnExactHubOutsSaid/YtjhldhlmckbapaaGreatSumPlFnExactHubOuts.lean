/- What the laws measure is a sum: no more things are in a node than were measured. -/
import Derived.Test.YtjhldhlmckbapaaGreatSzPlFnExactHubOuts
import Derived.Test.YtjhldhlmckbapaaGreatNodeSzPlFnExactHubOuts
set_option linter.unusedVariables false
set_option linter.unusedSimpArgs false
namespace Go.Proofs.YtjhldhlmckbapaaGreat.SFnExactHubOuts
open Go Go.Sx Go.Pl

def wPa (x : Pa) : Nat := x.2.2.1.length + x.2.2.2.length
def wPs (l : List Pa) : Nat := l.length + sumN wPa l
def wLa (x : La) : Nat := wPs x.2.2
def wLs (l : List La) : Nat := l.length + sumN wLa l
def wVw (x : Vw) : Nat := x.2.2.length
def wVs (l : List Vw) : Nat := l.length + sumN wVw l
def wNd (n : Nd) : Nat := wLs n.2.2.2.2.1 + (n.2.2.2.2.2.1.length + (n.2.2.2.2.2.2.1.length + (wVs n.2.2.2.2.2.2.2.2.2.1 + n.2.2.2.2.2.2.2.2.2.2.1.length)))
theorem szPast_W (x : Pa) (c : Int) (h0 : 0 ≤ c) (h1 : c ≤ 1048576) (hl : LongPa x) : SzW (fun k => laws_szPast k x c) (wPa x) c :=
  SzW.step (fun k => laws_szPast_eq k x c) (SzW.and (szEventS_W _ c h0 h1 hl.1) h1 fun r hr hr1 => SzW.end_ (szOutS_W _ r hr hr1 hl.2) hr1)
theorem szPastS_W (l : List Pa) (c : Int) (h0 : 0 ≤ c) (h1 : c ≤ 1048576) (hl : l.length ≤ maxLen) (hx : ∀ x ∈ l, LongPa x) : SzW (fun k => laws_szPastS k l c) (wPs l) c := by
  refine szW_list (fun k => laws_szPastS k l c) (fun k j c i => laws_szPastS_5 k j l c (i : Int)) l (dflt t_laws_Past) wPa c h0 h1 hl (fun k => laws_szPastS_eq k l c) (fun k j c => ?_) fun i hi c h0 h1 => ⟨_, szPast_W _ c h0 h1 (hx _ (getD_mem _ (dflt t_laws_Past) i hi)), fun k j => ?_⟩
  · rw [laws_szPastS_5_eq, decide_eq_false (by omega), cond_false]
  · have c1 : (i : Int) < (l.length : Int) := by omega
    have c2 : (0 : Int) ≤ (i : Int) := by omega
    have hb : i < 9223372036854775807 := by unfold maxLen at hl; omega
    rw [laws_szPastS_5_eq]
    simp only [decide_eq_true c1, decide_eq_true c2, cond_true, Int.toNat_natCast, w64n i hb]
theorem szLane_W (x : La) (c : Int) (h0 : 0 ≤ c) (h1 : c ≤ 1048576) (hl : LongLa x) : SzW (fun k => laws_szLane k x c) (wLa x) c :=
  SzW.step (fun k => laws_szLane_eq k x c) (SzW.end_ (szPastS_W _ c h0 h1 hl.1 hl.2) h1)
theorem szLaneS_W (l : List La) (c : Int) (h0 : 0 ≤ c) (h1 : c ≤ 1048576) (hl : l.length ≤ maxLen) (hx : ∀ x ∈ l, LongLa x) : SzW (fun k => laws_szLaneS k l c) (wLs l) c := by
  refine szW_list (fun k => laws_szLaneS k l c) (fun k j c i => laws_szLaneS_5 k j l c (i : Int)) l (dflt t_laws_Lane) wLa c h0 h1 hl (fun k => laws_szLaneS_eq k l c) (fun k j c => ?_) fun i hi c h0 h1 => ⟨_, szLane_W _ c h0 h1 (hx _ (getD_mem _ (dflt t_laws_Lane) i hi)), fun k j => ?_⟩
  · rw [laws_szLaneS_5_eq, decide_eq_false (by omega), cond_false]
  · have c1 : (i : Int) < (l.length : Int) := by omega
    have c2 : (0 : Int) ≤ (i : Int) := by omega
    have hb : i < 9223372036854775807 := by unfold maxLen at hl; omega
    rw [laws_szLaneS_5_eq]
    simp only [decide_eq_true c1, decide_eq_true c2, cond_true, Int.toNat_natCast, w64n i hb]
theorem szView_W (x : Vw) (c : Int) (h0 : 0 ≤ c) (h1 : c ≤ 1048576) (hl : LongVw x) : SzW (fun k => laws_szView k x c) (wVw x) c :=
  SzW.step (fun k => laws_szView_eq k x c) (SzW.end_ (szEventS_W _ c h0 h1 hl) h1)
theorem szViewS_W (l : List Vw) (c : Int) (h0 : 0 ≤ c) (h1 : c ≤ 1048576) (hl : l.length ≤ maxLen) (hx : ∀ x ∈ l, LongVw x) : SzW (fun k => laws_szViewS k l c) (wVs l) c := by
  refine szW_list (fun k => laws_szViewS k l c) (fun k j c i => laws_szViewS_5 k j l c (i : Int)) l (dflt t_laws_View) wVw c h0 h1 hl (fun k => laws_szViewS_eq k l c) (fun k j c => ?_) fun i hi c h0 h1 => ⟨_, szView_W _ c h0 h1 (hx _ (getD_mem _ (dflt t_laws_View) i hi)), fun k j => ?_⟩
  · rw [laws_szViewS_5_eq, decide_eq_false (by omega), cond_false]
  · have c1 : (i : Int) < (l.length : Int) := by omega
    have c2 : (0 : Int) ≤ (i : Int) := by omega
    have hb : i < 9223372036854775807 := by unfold maxLen at hl; omega
    rw [laws_szViewS_5_eq]
    simp only [decide_eq_true c1, decide_eq_true c2, cond_true, Int.toNat_natCast, w64n i hb]
theorem szNode_W (n : Nd) (c : Int) (h0 : 0 ≤ c) (h1 : c ≤ 1048576) (hl : LongNd n) : SzW (fun k => laws_szNode k n c) (wNd n) c :=
  SzW.step (fun k => laws_szNode_eq k n c) (SzW.and (szLaneS_W _ c h0 h1 hl.lanes hl.lane) h1 fun r hr hr1 => SzW.and (szEventS_W _ r hr hr1 hl.kept) hr1 fun r hr hr1 => SzW.and (szOutS_W _ r hr hr1 hl.outs) hr1 fun r hr hr1 =>
    SzW.and (szViewS_W _ r hr hr1 hl.views hl.view) hr1 fun r hr hr1 => SzW.end_ (szIntS_W _ r hr hr1 hl.known) hr1)
end Go.Proofs.YtjhldhlmckbapaaGreat.SFnExactHubOuts
