/- What the laws write into a lane, and read back; what is measured of it. -/
import Derived.Test.YtjgpacfhokpfdaaSzPlFnExactLaneCut
import Derived.Test.YtjgpacfhokpfdaaMarkLoopPlFnExactLaneCut
import Derived.Test.YtjgpacfhokpfdaaMarkEPlFnExactLaneCut
set_option linter.unusedVariables false
set_option linter.unusedSimpArgs false
namespace Go.Proofs.Ytjgpacfhokpfdaa.SFnExactLaneCut
open Go Go.Sx Go.Pl

def cntPa (x : Pa) : Nat := 10 + 7 * x.2.2.1.length + 5 * x.2.2.2.length
def mkPa (m : Int) (x : Pa) : Pa := (sevM m, (m + 7, m + 8, m + 9), mkE (m + 10) x.2.2.1.length, mkO (m + 10 + 7 * (x.2.2.1.length : Int)) x.2.2.2.length)
def mkPs (m : Int) : List Pa → List Pa
  | [] => []
  | x :: l => mkPa m x :: mkPs (m + (cntPa x : Int)) l
theorem mkPs_len (l : List Pa) : ∀ m, (mkPs m l).length = l.length := by
  induction l with
  | nil => intro m; rfl
  | cons x l ih => intro m; simp [mkPs, ih]
theorem at_mid {α : Type} (a : List α) (x d : α) (b : List α) : (a ++ x :: b).getD a.length d = x := by
  rw [List.getD_eq_getElem?_getD, List.getElem?_append_right (Nat.le_refl _)]; simp
theorem cnt_cons (x : Pa) (l : List Pa) : (sumN cntPa (x :: l) : Int) = (cntPa x : Int) + (sumN cntPa l : Int) := by
  have : sumN cntPa (x :: l) = cntPa x + sumN cntPa l := by unfold sumN; rw [List.map_cons, List.sum_cons]
  omega
theorem cnt_pa (x : Pa) : (cntPa x : Int) = 10 + 7 * (x.2.2.1.length : Int) + 5 * (x.2.2.2.length : Int) := by unfold cntPa; omega
theorem markPsL (l : List Pa) : ∀ (pre : List Pa) (y : Int), 0 ≤ y → y + (sumN cntPa l : Int) ≤ 100000000 → pre.length + l.length ≤ 1048576 → (∀ x ∈ l, SmallPa x) →
    EvL (fun k j => laws_markPastS_h0_2 k j y (pre.length : Int) (pre ++ l)) (y + (sumN cntPa l : Int), pre ++ mkPs y l, ()) := by
  induction l with
  | nil =>
    intro pre y h0 h1 hn hx
    refine (EvL.step (M := fun _ _ => some (y, pre ++ [], ())) (fun k j => ?_) (EvL.now _)).to (by simp [sumN, mkPs])
    rw [laws_markPastS_h0_2_eq, List.append_nil, decide_eq_false (by omega), cond_false]
  | cons x l ih =>
    intro pre y h0 h1 hn hx
    rw [cnt_cons] at h1 ⊢
    have hc := cnt_pa x
    rw [List.length_cons] at hn
    have hsx := hx x (List.mem_cons_self ..)
    have c1 : ∀ z : Pa, decide ((pre.length : Int) < ((pre ++ z :: l).length : Int)) = true := fun z => decide_eq_true (by rw [List.length_append, List.length_cons]; omega)
    have c2 : (0 : Int) ≤ (pre.length : Int) := by omega
    have c3 : ∀ z : Pa, decide (pre.length < (pre ++ z :: l).length) = true := fun z => decide_eq_true (by rw [List.length_append, List.length_cons]; omega)
    obtain ⟨f1, f2, f3, f4, f5, f6, f7, f8, f9, f10⟩ := tens (y := y) h0 (by omega)
    have hm := fun f z => modify_at f pre z l
    have ha := fun (z : Pa) => at_mid pre z (dflt t_impl_Past) l
    refine EvL.step (fun k j => laws_markPastS_h0_2_eq k j y (pre.length : Int) (pre ++ x :: l)) ?_
    simp only [List.length_modify, c1, decide_eq_true c2, c3, cond_true, Int.toNat_natCast, f1, f2, f3, f4, f5, f6, f7, f8, f9, f10, w64n pre.length (by omega), List.modify_modify_eq, hm, ha, Function.comp_apply]
    refine EvL.bind (markES (y + 10) (by omega) (by omega) _ hsx.1) ?_
    refine EvL.bind (markO (y + 10 + 7 * (x.2.2.1.length : Int)) (by omega) (by omega) _ hsx.2) ?_
    have := ih (pre ++ [mkPa y x]) (y + (cntPa x : Int)) (by omega) (by omega) (by rw [List.length_append, List.length_singleton]; omega) fun z hz => hx z (List.mem_cons_of_mem _ hz)
    rw [List.append_assoc, List.append_assoc, List.length_append, List.length_singleton] at this
    refine (EvL.congr (fun k j => ?_) this).to ?_
    · have e : y + 10 + 7 * (x.2.2.1.length : Int) + 5 * (x.2.2.2.length : Int) = y + (cntPa x : Int) := by omega
      rw [e]; rfl
    · rw [Int.add_assoc]; rfl
theorem markPS (m : Int) (h0 : 0 ≤ m) (l : List Pa) (h1 : m + (sumN cntPa l : Int) ≤ 100000000) (hl : l.length ≤ 1048576) (hx : ∀ x ∈ l, SmallPa x) : Ev (fun k => laws_markPastS_h0 k m l) (m + (sumN cntPa l : Int), mkPs m l, ()) :=
  Ev.step (fun k => laws_markPastS_h0_eq k m l) (EvL.ev (L := fun k j => laws_markPastS_h0_2 k j m 0 l) (markPsL l [] m h0 h1 (by simpa using hl) hx))
theorem heldPsL (l : List Pa) : ∀ (pre : List Pa) (y : Int), 0 ≤ y → y + (sumN cntPa l : Int) ≤ 100000000 → pre.length + l.length ≤ 1048576 → (∀ x ∈ l, SmallPa x) →
    EvL (fun k j => laws_heldPastS_2 k j (pre ++ mkPs y l) y (pre.length : Int)) (y + (sumN cntPa l : Int)) := by
  induction l with
  | nil =>
    intro pre y h0 h1 hn hx
    refine (EvL.step (M := fun _ _ => some y) (fun k j => ?_) (EvL.now _)).to (by simp [sumN])
    rw [laws_heldPastS_2_eq]
    simp only [mkPs, List.append_nil]
    rw [decide_eq_false (by omega), cond_false]
  | cons x l ih =>
    intro pre y h0 h1 hn hx
    rw [cnt_cons] at h1 ⊢
    have hc := cnt_pa x
    rw [List.length_cons] at hn
    have hsx := hx x (List.mem_cons_self ..)
    have em : mkPs y (x :: l) = mkPa y x :: mkPs (y + (cntPa x : Int)) l := rfl
    rw [em]
    have c1 : (pre.length : Int) < ((pre ++ mkPa y x :: mkPs (y + (cntPa x : Int)) l).length : Int) := by rw [List.length_append, List.length_cons]; omega
    have c2 : (0 : Int) ≤ (pre.length : Int) := by omega
    obtain ⟨f1, f2, f3, f4, f5, f6, f7, f8, f9, f10⟩ := tens (y := y) h0 (by omega)
    have ha := at_mid pre (mkPa y x) (dflt t_impl_Past) (mkPs (y + (cntPa x : Int)) l)
    refine EvL.step (fun k j => laws_heldPastS_2_eq k j _ y (pre.length : Int)) ?_
    simp only [decide_eq_true c1, decide_eq_true c2, cond_true, Int.toNat_natCast, f1, f2, f3, f4, f5, f6, f7, f8, f9, f10, w64n pre.length (by omega), ha]
    simp only [mkPa, sevM, bne_self_eq_false, cond_false]
    refine EvL.bind (heldES (y + 10) (by omega) (by omega) _ hsx.1) ?_
    have n1 : ¬ (y + 10 + 7 * (x.2.2.1.length : Int) < 0) := by omega
    rw [decide_eq_false n1]
    simp only [cond_false]
    refine EvL.bind (heldO (y + 10 + 7 * (x.2.2.1.length : Int)) (by omega) (by omega) _ hsx.2) ?_
    have n2 : ¬ (y + 10 + 7 * (x.2.2.1.length : Int) + 5 * (x.2.2.2.length : Int) < 0) := by omega
    rw [decide_eq_false n2]
    simp only [cond_false]
    have := ih (pre ++ [mkPa y x]) (y + (cntPa x : Int)) (by omega) (by omega) (by rw [List.length_append, List.length_singleton]; omega) fun z hz => hx z (List.mem_cons_of_mem _ hz)
    rw [List.append_assoc, List.length_append, List.length_singleton] at this
    refine (EvL.congr (fun k j => ?_) this).to ?_
    · have e : y + 10 + 7 * (x.2.2.1.length : Int) + 5 * (x.2.2.2.length : Int) = y + (cntPa x : Int) := by omega
      rw [e]; rfl
    · exact Int.add_assoc _ _ _
theorem heldPS (m : Int) (h0 : 0 ≤ m) (l : List Pa) (h1 : m + (sumN cntPa l : Int) ≤ 100000000) (hl : l.length ≤ 1048576) (hx : ∀ x ∈ l, SmallPa x) : Ev (fun k => laws_heldPastS k (mkPs m l) m) (m + (sumN cntPa l : Int)) :=
  Ev.step (fun k => laws_heldPastS_eq k _ m) (EvL.ev (L := fun k j => laws_heldPastS_2 k j (mkPs m l) m 0) (heldPsL l [] m h0 h1 (by simpa using hl) hx))
/-- A lane's marks. -/
theorem markLa (a b c d : Int) (m : Int) (h0 : 0 ≤ m) (l : List Pa) (h1 : m + (sumN cntPa l : Int) ≤ 100000000) (hl : l.length ≤ 1048576) (hx : ∀ x ∈ l, SmallPa x) : Ev (fun k => laws_markLane_h0 k a b c d m l) (m + (sumN cntPa l : Int), mkPs m l, ()) :=
  Ev.step (fun k => laws_markLane_h0_eq k a b c d m l) (Ev.bind (markPS m h0 l h1 hl hx) (Ev.now _))
theorem heldLa (a : Int) (s : St3) (m : Int) (h0 : 0 ≤ m) (l : List Pa) (h1 : m + (sumN cntPa l : Int) ≤ 100000000) (hl : l.length ≤ 1048576) (hx : ∀ x ∈ l, SmallPa x) : Ev (fun k => laws_heldLane k (a, s, mkPs m l) m) (m + (sumN cntPa l : Int)) := by
  refine Ev.step (fun k => laws_heldLane_eq k _ m) (Ev.bind (heldPS m h0 l h1 hl hx) ?_)
  have n1 : ¬ (m + (sumN cntPa l : Int) < 0) := by omega
  rw [decide_eq_false n1]
  simp only [cond_false]
  exact Ev.now _

/-! ### measured -/
def LongLa (x : La) : Prop := x.2.2.length ≤ maxLen ∧ ∀ y ∈ x.2.2, LongPa y
def wPa (x : Pa) : Nat := x.2.2.1.length + x.2.2.2.length
def wPs (l : List Pa) : Nat := l.length + sumN wPa l
def wLa (x : La) : Nat := wPs x.2.2
theorem szPast_W (x : Pa) (c : Int) (h0 : 0 ≤ c) (h1 : c ≤ 1048576) (hl : LongPa x) : SzW (fun k => laws_szPast k x c) (wPa x) c :=
  SzW.step (fun k => laws_szPast_eq k x c) (SzW.and (szEventS_W _ c h0 h1 hl.1) h1 fun r hr hr1 => SzW.end_ (szOutS_W _ r hr hr1 hl.2) hr1)
theorem szPastS_W (l : List Pa) (c : Int) (h0 : 0 ≤ c) (h1 : c ≤ 1048576) (hl : l.length ≤ maxLen) (hx : ∀ x ∈ l, LongPa x) : SzW (fun k => laws_szPastS k l c) (wPs l) c := by
  refine szW_list (fun k => laws_szPastS k l c) (fun k j c i => laws_szPastS_5 k j l c (i : Int)) l (dflt t_laws_Past) wPa c h0 h1 hl (fun k => laws_szPastS_eq k l c) (fun k j c => ?_) fun i hi c h0 h1 => ⟨_, szPast_W _ c h0 h1 (hx _ (getD_mem _ (dflt t_laws_Past) i hi)), fun k j => ?_⟩
  · rw [laws_szPastS_5_eq, decide_eq_false (by omega), cond_false]
  · have c1 : (i : Int) < (l.length : Int) := by omega
    have c2 : (0 : Int) ≤ (i : Int) := by omega
    have hb : i < 9223372036854775807 := by unfold maxLen at hl; omega
    rw [laws_szPastS_5_eq]
    simp only [decide_eq_true c1, decide_eq_true c2, cond_true, Int.toNat_natCast, w64n i hb]
theorem szLane_W (x : La) (c : Int) (h0 : 0 ≤ c) (h1 : c ≤ 1048576) (hl : LongLa x) : SzW (fun k => laws_szLane k x c) (wLa x) c :=
  SzW.step (fun k => laws_szLane_eq k x c) (SzW.end_ (szPastS_W _ c h0 h1 hl.1 hl.2) h1)
theorem cnt_bound (l : List Pa) : sumN cntPa l ≤ 10 * wPs l := by
  have hp : ∀ x : Pa, cntPa x ≤ 10 + 7 * wPa x := fun x => by unfold cntPa wPa; omega
  have h1 := sumN_add hp l
  unfold wPs
  omega
end Go.Proofs.Ytjgpacfhokpfdaa.SFnExactLaneCut
