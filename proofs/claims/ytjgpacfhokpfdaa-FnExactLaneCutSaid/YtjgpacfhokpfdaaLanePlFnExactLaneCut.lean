/- Whether a lane is ok: the reference's LaneOk and the program's are one plain function. The laws' own helpers: what is measured, carried over, compared. -/
import Derived.Test.YtjgpacfhokpfdaaChecksPlFnExactLaneCut
set_option linter.unusedVariables false
set_option linter.unusedSimpArgs false
namespace Go.Proofs.Ytjgpacfhokpfdaa.SFnExactLaneCut
open Go Go.Sx Go.Pl

def pastM (x : Pa) (p : Int) : Bool := evM x.1 && ((x.1.2.1 == p) && (stM x.2.1 && (eventsM x.2.2.1 2 && outsM x.2.2.2 2)))
def SmallPa (x : Pa) : Prop := x.2.2.1.length ≤ 1048576 ∧ x.2.2.2.length ≤ 1048576
def SmallLa (x : La) : Prop := x.2.2.length ≤ 1048576 ∧ ∀ y ∈ x.2.2, SmallPa y
def lessP (x y : Pa) : Bool := lessE x.1 y.1
theorem specPast_ev (x : Pa) (p : Int) (h : SmallPa x) : Ev (fun k => spec_l21PastOk k x p) (pastM x p) := by
  refine Ev.step (fun k => spec_l21PastOk_eq k x p) ?_
  refine Ev.and' (Ev.of 3 fun m => specEvent m _) fun _ => Ev.andc fun _ => Ev.and' (Ev.of 3 fun m => specState m _) fun _ => Ev.and' (specEvents_ev _ _ h.1) fun _ => Ev.bind (specOuts_ev _ _ h.2) (Ev.now _)
theorem implPast_ev (x : Pa) (p : Int) (h : SmallPa x) : Ev (fun k => impl_pastOk k x p) (pastM x p) := by
  refine Ev.step (fun k => impl_pastOk_eq k x p) ?_
  refine Ev.and' (Ev.of 3 fun m => implEvent m _) fun _ => Ev.andc fun _ => Ev.and' (Ev.of 3 fun m => implState m _) fun _ => Ev.and' (implEvents_ev _ _ h.1) fun _ => Ev.bind (implOuts_ev _ _ h.2) (Ev.now _)
def laneM (x : La) : Bool := inB x.1 0 3 && (stM x.2.1 && (!decide ((x.2.2.length : Int) > 100) && listM (fun y => pastM y x.1) lessP x.2.2))
theorem specLane_ev (x : La) (h : SmallLa x) : Ev (fun k => spec_LaneOk k x) (laneM x) := by
  refine Ev.step (fun k => spec_LaneOk_eq k x) ?_
  refine Ev.and (Ev.of 2 fun m => specProc m _) fun _ => Ev.and (Ev.of 3 fun m => specState m _) fun _ => Ev.bind (Ev.of 1 fun m => spec_l2Most_eq m) (Ev.andn fun _ => ?_)
  refine EvL.ev (L := fun k j => spec_LaneOk_4 k j 0 x) ?_
  have hl := h.1
  refine pair_loop (fun k j i => spec_LaneOk_4 k j (i : Int) x) x.2.2 (dflt t_impl_Past) (fun y => pastM y x.1) lessP (fun k j => ?_) fun i hi => ⟨fun k => spec_l21PastOk k (x.2.2.getD i (dflt t_impl_Past)) x.1, fun k => spec_EventLess k (x.2.2.getD (i - 1) (dflt t_impl_Past)).1 (x.2.2.getD i (dflt t_impl_Past)).1, specPast_ev _ _ (h.2 _ (getD_mem _ _ _ hi)), fun _ => Ev.of 1 fun m => specEventLess m _ _, fun k j => ?_⟩
  · rw [spec_LaneOk_4_eq, decide_eq_false (by omega)]; rfl
  · have c1 : (i : Int) < (x.2.2.length : Int) := by omega
    have c2 : (0 : Int) ≤ (i : Int) := by omega
    rw [spec_LaneOk_4_eq]
    simp only [decide_eq_true c1, decide_eq_true c2, cond_true, Int.toNat_natCast, w64n i (by omega), dec_gt]
    by_cases h0 : 0 < i
    · have e1 : IntKind.i64.wrap ((i : Int) - 1) = ((i - 1 : Nat) : Int) := by rw [w64 (by omega) (by omega)]; omega
      have c4 : (0 : Int) ≤ ((i - 1 : Nat) : Int) := by omega
      have c5 : ((i - 1 : Nat) : Int) < (x.2.2.length : Int) := by omega
      simp only [decide_eq_true h0, cond_true, e1, decide_eq_true c4, decide_eq_true c5, Int.toNat_natCast]
    · simp only [decide_eq_false h0, cond_false]
theorem implLane_ev (x : La) (h : SmallLa x) : Ev (fun k => impl_LaneOk k x) (laneM x) := by
  refine Ev.step (fun k => impl_LaneOk_eq k x) ?_
  refine Ev.and (Ev.of 2 fun m => implProc m _) fun _ => Ev.and (Ev.of 3 fun m => implState m _) fun _ => Ev.andn fun _ => ?_
  refine EvL.ev (L := fun k j => impl_LaneOk_4 k j x.2.2 (x.2.2.length : Int) 0 x) ?_
  have hl := h.1
  refine pair_loop (fun k j i => impl_LaneOk_4 k j x.2.2 (x.2.2.length : Int) (i : Int) x) x.2.2 (dflt t_impl_Past) (fun y => pastM y x.1) lessP (fun k j => ?_) fun i hi => ⟨fun k => impl_pastOk k (x.2.2.getD i (dflt t_impl_Past)) x.1, fun k => impl_EventLess k (x.2.2.getD (i - 1) (dflt t_impl_Past)).1 (x.2.2.getD i (dflt t_impl_Past)).1, implPast_ev _ _ (h.2 _ (getD_mem _ _ _ hi)), fun _ => implEventLess _ _, fun k j => ?_⟩
  · rw [impl_LaneOk_4_eq, decide_eq_false (by omega)]; rfl
  · have c1 : (i : Int) < (x.2.2.length : Int) := by omega
    have c2 : (0 : Int) ≤ (i : Int) := by omega
    rw [impl_LaneOk_4_eq]
    simp only [decide_eq_true c1, decide_eq_true c2, cond_true, Int.toNat_natCast, w64n i (by omega), dec_gt]
    by_cases h0 : 0 < i
    · have e1 : IntKind.i64.wrap ((i : Int) - 1) = ((i - 1 : Nat) : Int) := by rw [w64 (by omega) (by omega)]; omega
      have c4 : (0 : Int) ≤ ((i - 1 : Nat) : Int) := by omega
      have c5 : ((i - 1 : Nat) : Int) < (x.2.2.length : Int) := by omega
      simp only [decide_eq_true h0, cond_true, e1, decide_eq_true c4, decide_eq_true c5, Int.toNat_natCast]
    · simp only [decide_eq_false h0, cond_false]

/-! ### measured -/
theorem szW {n : Nat} {c : Int} (h0 : 0 ≤ c) (h1 : c ≤ 1048576) (hl : n ≤ maxLen) : IntKind.i64.wrap (c - (n : Int)) = c - n := by unfold maxLen at hl; exact w64 (by omega) (by omega)
theorem sz_flat {n : Nat} {c : Int} (h0 : 0 ≤ c) (h1 : c ≤ 1048576) (hl : n ≤ maxLen) :
    ∃ r : Int, Ev (fun _ => cond (decide (IntKind.i64.wrap (c - (n : Int)) < 0)) (some (-1)) (some (IntKind.i64.wrap (c - (n : Int))))) r ∧ r ≤ 1048576 ∧ (0 ≤ r → n ≤ 1048576) := by
  rw [szW h0 h1 hl]
  by_cases hn : c - (n : Int) < 0
  · rw [decide_eq_true hn]; exact ⟨-1, Ev.now _, by omega, by omega⟩
  · rw [decide_eq_false hn]; exact ⟨c - n, Ev.now _, by omega, by omega⟩
theorem szEventS (l : List Ev7) (c : Int) (h0 : 0 ≤ c) (h1 : c ≤ 1048576) (hl : l.length ≤ maxLen) : ∃ r : Int, Ev (fun k => laws_szEventS k l c) r ∧ r ≤ 1048576 ∧ (0 ≤ r → l.length ≤ 1048576) := by
  obtain ⟨r, h, h2⟩ := sz_flat h0 h1 hl
  exact ⟨r, Ev.step (fun k => laws_szEventS_eq k l c) h, h2⟩
theorem szOutS (l : List Ou5) (c : Int) (h0 : 0 ≤ c) (h1 : c ≤ 1048576) (hl : l.length ≤ maxLen) : ∃ r : Int, Ev (fun k => laws_szOutS k l c) r ∧ r ≤ 1048576 ∧ (0 ≤ r → l.length ≤ 1048576) := by
  obtain ⟨r, h, h2⟩ := sz_flat h0 h1 hl
  exact ⟨r, Ev.step (fun k => laws_szOutS_eq k l c) h, h2⟩
theorem sz_and {s : Nat → Option Int} {g : Nat → Int → Option Int} {r : Int} {p q : Prop} (hs : Ev s r) (h1 : r ≤ 1048576) (h2 : 0 ≤ r → p) (hg : 0 ≤ r → ∃ r' : Int, Ev (fun k => g k r) r' ∧ r' ≤ 1048576 ∧ (0 ≤ r' → q)) :
    ∃ r' : Int, Ev (fun k => (s k).bind fun t => cond (decide (t < 0)) (some (-1)) (g k t)) r' ∧ r' ≤ 1048576 ∧ (0 ≤ r' → p ∧ q) := by
  by_cases hr : r < 0
  · refine ⟨-1, Ev.bind hs ?_, by omega, by omega⟩
    simp only [decide_eq_true hr, cond_true]; exact Ev.now _
  · obtain ⟨r', h3, h4, h5⟩ := hg (by omega)
    refine ⟨r', Ev.bind hs ?_, h4, fun h => ⟨h2 (by omega), h5 h⟩⟩
    simp only [decide_eq_false hr, cond_false]; exact h3
theorem szPast (x : Pa) (c : Int) (h0 : 0 ≤ c) (h1 : c ≤ 1048576) (hl1 : x.2.2.1.length ≤ maxLen) (hl2 : x.2.2.2.length ≤ maxLen) : ∃ r : Int, Ev (fun k => laws_szPast k x c) r ∧ r ≤ 1048576 ∧ (0 ≤ r → SmallPa x) := by
  obtain ⟨r, h2, h3, h4⟩ := szEventS x.2.2.1 c h0 h1 hl1
  obtain ⟨r', h5, h6, h7⟩ := sz_and (q := x.2.2.2.length ≤ 1048576) (g := fun k t => (laws_szOutS k x.2.2.2 t).bind fun u => cond (decide (u < 0)) (some (-1)) (some u)) h2 h3 h4 fun hr => by
    obtain ⟨r2, h8, h9, h10⟩ := szOutS x.2.2.2 r hr h3 hl2
    obtain ⟨r3, h11, h12, h13⟩ := sz_and (q := True) (g := fun k u => some u) h8 h9 h10 fun _ => ⟨r2, Ev.now _, h9, fun _ => trivial⟩
    exact ⟨r3, h11, h12, fun h => (h13 h).1⟩
  exact ⟨r', Ev.step (fun k => laws_szPast_eq k x c) h5, h6, h7⟩
def LongPa (x : Pa) : Prop := x.2.2.1.length ≤ maxLen ∧ x.2.2.2.length ≤ maxLen
theorem szPastS (l : List Pa) (c : Int) (h0 : 0 ≤ c) (h1 : c ≤ 1048576) (hl : l.length ≤ maxLen) (hx : ∀ x ∈ l, LongPa x) : ∃ r : Int, Ev (fun k => laws_szPastS k l c) r ∧ r ≤ 1048576 ∧ (0 ≤ r → l.length ≤ 1048576 ∧ ∀ x ∈ l, SmallPa x) := by
  by_cases hn : c - (l.length : Int) < 0
  · refine ⟨-1, Ev.step (fun k => laws_szPastS_eq k l c) ?_, by decide, fun h => absurd h (by decide)⟩
    rw [szW h0 h1 hl, decide_eq_true hn]; exact Ev.now _
  · have hend : ∀ k j c, laws_szPastS_5 k (j + 1) l c (l.length : Int) = some c := fun k j c => by
      rw [laws_szPastS_5_eq, decide_eq_false (by omega), cond_false]
    obtain ⟨r, h2, h3, h4⟩ := sz_loop (fun k j c i => laws_szPastS_5 k j l c (i : Int)) l (dflt t_laws_Past) SmallPa hend (fun i hi c h0 h1 => by
      have hm := hx _ (getD_mem l (dflt t_laws_Past) i hi)
      obtain ⟨r, h2, h3, h4⟩ := szPast (l.getD i (dflt t_laws_Past)) c h0 h1 hm.1 hm.2
      refine ⟨fun k => laws_szPast k (l.getD i (dflt t_laws_Past)) c, r, h2, h3, h4, fun k j => ?_⟩
      have c1 : (i : Int) < (l.length : Int) := by omega
      have c2 : (0 : Int) ≤ (i : Int) := by omega
      have hb : i < 9223372036854775807 := by unfold maxLen at hl; omega
      rw [laws_szPastS_5_eq]
      simp only [decide_eq_true c1, decide_eq_true c2, cond_true, Int.toNat_natCast, w64n i hb]) (c - l.length) (by omega) (by omega)
    refine ⟨r, Ev.step (fun k => laws_szPastS_eq k l c) ?_, h3, fun h => ⟨by omega, h4 h⟩⟩
    rw [szW h0 h1 hl, decide_eq_false hn]
    simp only [cond_false]
    refine EvL.ev (L := fun k j => laws_szPastS_5 k j l (c - l.length) 0) ?_
    exact h2
theorem szLane (x : La) (c : Int) (h0 : 0 ≤ c) (h1 : c ≤ 1048576) (hl : x.2.2.length ≤ maxLen) (hx : ∀ y ∈ x.2.2, LongPa y) : ∃ r : Int, Ev (fun k => laws_szLane k x c) r ∧ r ≤ 1048576 ∧ (0 ≤ r → SmallLa x) := by
  obtain ⟨r, h2, h3, h4⟩ := szPastS x.2.2 c h0 h1 hl hx
  obtain ⟨r', h5, h6, h7⟩ := sz_and (q := True) (g := fun k u => some u) h2 h3 h4 fun _ => ⟨r, Ev.now _, h3, fun _ => trivial⟩
  exact ⟨r', Ev.step (fun k => laws_szLane_eq k x c) h5, h6, fun h => (h7 h).1⟩

/-! ### carried over -/
theorem toEventS (l : List Ev7) (h : l.length ≤ 1048576) : Ev (fun k => laws_toEventS k l) l := by
  refine Ev.step (fun k => laws_toEventS_eq k l) ?_
  simp only [Int.le_refl, decide_true, cond_true, Int.toNat_natCast]
  rw [decide_eq_true (by omega)]
  simp only [cond_true]
  refine EvL.ev (L := fun k j => laws_toEventS_3 k j l 0 (List.replicate l.length (dflt t_impl_Event))) ?_
  refine (copy_loop (fun k j x i => laws_toEventS_3 k j l (i : Int) x) l (dflt t_laws_Event) (dflt t_impl_Event) id (fun k j x => ?_) fun i hi => ⟨fun k => laws_toEvent k (l.getD i (dflt t_laws_Event)), Ev.of 1 fun m => laws_toEvent_eq m _, fun k j x hx => ?_⟩).to (List.map_id l)
  · rw [laws_toEventS_3_eq, decide_eq_false (by omega)]; rfl
  · have c1 : (i : Int) < (l.length : Int) := by omega
    have c2 : (0 : Int) ≤ (i : Int) := by omega
    have c3 : (i : Int) < (x.length : Int) := by omega
    have c4 : i < x.length := by omega
    rw [laws_toEventS_3_eq]
    simp only [decide_eq_true c1, decide_eq_true c2, decide_eq_true c3, decide_eq_true c4, cond_true, Int.toNat_natCast, w64n i (by omega)]
theorem toOutS (l : List Ou5) (h : l.length ≤ 1048576) : Ev (fun k => laws_toOutS k l) l := by
  refine Ev.step (fun k => laws_toOutS_eq k l) ?_
  simp only [Int.le_refl, decide_true, cond_true, Int.toNat_natCast]
  rw [decide_eq_true (by omega)]
  simp only [cond_true]
  refine EvL.ev (L := fun k j => laws_toOutS_3 k j l 0 (List.replicate l.length (dflt t_impl_Out))) ?_
  refine (copy_loop (fun k j x i => laws_toOutS_3 k j l (i : Int) x) l (dflt t_laws_Out) (dflt t_impl_Out) id (fun k j x => ?_) fun i hi => ⟨fun k => laws_toOut k (l.getD i (dflt t_laws_Out)), Ev.of 1 fun m => laws_toOut_eq m _, fun k j x hx => ?_⟩).to (List.map_id l)
  · rw [laws_toOutS_3_eq, decide_eq_false (by omega)]; rfl
  · have c1 : (i : Int) < (l.length : Int) := by omega
    have c2 : (0 : Int) ≤ (i : Int) := by omega
    have c3 : (i : Int) < (x.length : Int) := by omega
    have c4 : i < x.length := by omega
    rw [laws_toOutS_3_eq]
    simp only [decide_eq_true c1, decide_eq_true c2, decide_eq_true c3, decide_eq_true c4, cond_true, Int.toNat_natCast, w64n i (by omega)]
theorem toPast (x : Pa) (h : SmallPa x) : Ev (fun k => laws_toPast k x) x := by
  refine Ev.step (fun k => laws_toPast_eq k x) ?_
  exact Ev.bind (Ev.of 1 fun m => laws_toEvent_eq m _) (Ev.bind (Ev.of 1 fun m => laws_toState_eq m _) (Ev.bind (toEventS _ h.1) (Ev.bind (toOutS _ h.2) (Ev.now _))))
theorem toPastS (l : List Pa) (h : l.length ≤ 1048576) (hx : ∀ x ∈ l, SmallPa x) : Ev (fun k => laws_toPastS k l) l := by
  refine Ev.step (fun k => laws_toPastS_eq k l) ?_
  simp only [Int.le_refl, decide_true, cond_true, Int.toNat_natCast]
  rw [decide_eq_true (by omega)]
  simp only [cond_true]
  refine EvL.ev (L := fun k j => laws_toPastS_3 k j l 0 (List.replicate l.length (dflt t_impl_Past))) ?_
  refine (copy_loop (fun k j x i => laws_toPastS_3 k j l (i : Int) x) l (dflt t_laws_Past) (dflt t_impl_Past) id (fun k j x => ?_) fun i hi => ⟨fun k => laws_toPast k (l.getD i (dflt t_laws_Past)), toPast _ (hx _ (getD_mem _ _ _ hi)), fun k j x hx => ?_⟩).to (List.map_id l)
  · rw [laws_toPastS_3_eq, decide_eq_false (by omega)]; rfl
  · have c1 : (i : Int) < (l.length : Int) := by omega
    have c2 : (0 : Int) ≤ (i : Int) := by omega
    have c3 : (i : Int) < (x.length : Int) := by omega
    have c4 : i < x.length := by omega
    rw [laws_toPastS_3_eq]
    simp only [decide_eq_true c1, decide_eq_true c2, decide_eq_true c3, decide_eq_true c4, cond_true, Int.toNat_natCast, w64n i (by omega)]
theorem toLane (x : La) (h : SmallLa x) : Ev (fun k => laws_toLane k x) x := by
  refine Ev.step (fun k => laws_toLane_eq k x) ?_
  exact Ev.bind (Ev.of 1 fun m => laws_toState_eq m _) (Ev.bind (toPastS _ h.1 h.2) (Ev.now _))

/-! ### compared -/
instance decEv7 : DecidableEq Ev7 := fun a b => inferInstance
instance decOu5 : DecidableEq Ou5 := fun a b => inferInstance
instance decPa : DecidableEq Pa := fun a b => inferInstance
instance decLa : DecidableEq La := fun a b => inferInstance
theorem neD {α : Type} [DecidableEq α] {β : Type} [DecidableEq β] (x y : α) (p q : β) (b : Bool) (h : b = decide (p = q)) [BEq α] [LawfulBEq α] : cond (x != y) false b = decide ((x, p) = (y, q)) := by
  subst h
  by_cases hx : x = y
  · subst hx; simp
  · have : (x != y) = true := by simpa using hx
    rw [this]; simp [hx]
theorem neL (x y : Int) : cond (x != y) false true = decide (x = y) := by
  by_cases hx : x = y
  · subst hx; simp
  · have : (x != y) = true := by simpa using hx
    rw [this]; simp [hx]
theorem eqState (k : Nat) (x y : St3) : laws_eqState (k + 1) x y = some (decide (x = y)) := by
  rw [laws_eqState_eq]
  simp only [cS]
  congr 1
  exact neD _ _ _ _ _ (neD _ _ _ _ _ (neL _ _))
theorem eqEvent (k : Nat) (x y : Ev7) : laws_eqEvent (k + 1) x y = some (decide (x = y)) := by
  rw [laws_eqEvent_eq]
  simp only [cS]
  congr 1
  exact neD _ _ _ _ _ (neD _ _ _ _ _ (neD _ _ _ _ _ (neD _ _ _ _ _ (neD _ _ _ _ _ (neD _ _ _ _ _ (neL _ _))))))
theorem eqOut (k : Nat) (x y : Ou5) : laws_eqOut (k + 1) x y = some (decide (x = y)) := by
  rw [laws_eqOut_eq]
  simp only [cS]
  congr 1
  exact neD _ _ _ _ _ (neD _ _ _ _ _ (neD _ _ _ _ _ (neD _ _ _ _ _ (neL _ _))))
theorem len_ne {α : Type} [DecidableEq α] {l m : List α} {g : Nat → Option Bool} (h : l.length = m.length → Ev g (decide (l = m))) : Ev (fun k => cond ((l.length : Int) != (m.length : Int)) (some false) (g k)) (decide (l = m)) := by
  by_cases hl : l.length = m.length
  · have : ((l.length : Int) != (m.length : Int)) = false := by rw [hl]; simp
    simp only [this, cond_false]
    exact h hl
  · have : ((l.length : Int) != (m.length : Int)) = true := bne_iff_ne.2 (by omega)
    simp only [this, cond_true]
    refine (Ev.now _).to ?_
    rw [decide_eq_false (fun e => hl (by rw [e]))]
theorem eqEventS (l m : List Ev7) (h : l.length ≤ 1048576) : Ev (fun k => laws_eqEventS k l m) (decide (l = m)) := by
  refine Ev.step (fun k => laws_eqEventS_eq k l m) (len_ne fun hl => ?_)
  refine EvL.ev (L := fun k j => laws_eqEventS_4 k j l m 0) ?_
  refine eq_loop (fun k j i => laws_eqEventS_4 k j l m (i : Int)) l m (dflt t_impl_Event) hl (fun k j => ?_) fun i hi => ⟨fun k => laws_eqEvent k (l.getD i (dflt t_impl_Event)) (m.getD i (dflt t_impl_Event)), Ev.of 1 fun n => eqEvent n _ _, fun k j => ?_⟩
  · rw [laws_eqEventS_4_eq, decide_eq_false (by omega)]; rfl
  · have c1 : (i : Int) < (l.length : Int) := by omega
    have c2 : (0 : Int) ≤ (i : Int) := by omega
    have c3 : (i : Int) < (m.length : Int) := by omega
    rw [laws_eqEventS_4_eq]
    simp only [decide_eq_true c1, decide_eq_true c2, decide_eq_true c3, cond_true, Int.toNat_natCast, w64n i (by omega)]
theorem eqOutS (l m : List Ou5) (h : l.length ≤ 1048576) : Ev (fun k => laws_eqOutS k l m) (decide (l = m)) := by
  refine Ev.step (fun k => laws_eqOutS_eq k l m) (len_ne fun hl => ?_)
  refine EvL.ev (L := fun k j => laws_eqOutS_4 k j l m 0) ?_
  refine eq_loop (fun k j i => laws_eqOutS_4 k j l m (i : Int)) l m (dflt t_impl_Out) hl (fun k j => ?_) fun i hi => ⟨fun k => laws_eqOut k (l.getD i (dflt t_impl_Out)) (m.getD i (dflt t_impl_Out)), Ev.of 1 fun n => eqOut n _ _, fun k j => ?_⟩
  · rw [laws_eqOutS_4_eq, decide_eq_false (by omega)]; rfl
  · have c1 : (i : Int) < (l.length : Int) := by omega
    have c2 : (0 : Int) ≤ (i : Int) := by omega
    have c3 : (i : Int) < (m.length : Int) := by omega
    rw [laws_eqOutS_4_eq]
    simp only [decide_eq_true c1, decide_eq_true c2, decide_eq_true c3, cond_true, Int.toNat_natCast, w64n i (by omega)]
theorem eq_and {g h : Nat → Option Bool} {p q r : Prop} [Decidable p] [Decidable q] [Decidable r] (hg : Ev g (decide p)) (hh : p → Ev h (decide q)) (e : r ↔ p ∧ q) : Ev (fun k => (g k).bind fun x => cond (!x) (some false) (h k)) (decide r) := by
  refine Ev.bind hg ?_
  by_cases hp : p
  · rw [decide_eq_true hp]
    exact (hh hp).to (by simp [e, hp])
  · rw [decide_eq_false hp]
    exact (Ev.now _).to (by simp [e, hp])
theorem eq_done {p : Prop} [Decidable p] (h : p) : Ev (fun _ => some true) (decide p) := (Ev.now _).to (by simp [h])
theorem eqPast (x y : Pa) (h : SmallPa x) : Ev (fun k => laws_eqPast k x y) (decide (x = y)) := by
  refine Ev.step (fun k => laws_eqPast_eq k x y) ?_
  refine eq_and (q := x.2 = y.2) (Ev.of 1 fun n => eqEvent n _ _) (fun _ => ?_) Prod.ext_iff
  refine eq_and (q := x.2.2 = y.2.2) (Ev.of 1 fun n => eqState n _ _) (fun _ => ?_) Prod.ext_iff
  refine eq_and (q := x.2.2.2 = y.2.2.2) (eqEventS _ _ h.1) (fun _ => ?_) Prod.ext_iff
  exact eq_and (q := True) (eqOutS _ _ h.2) (fun _ => eq_done trivial) (by simp)
theorem eqPastS (l m : List Pa) (h : l.length ≤ 1048576) (hx : ∀ x ∈ l, SmallPa x) : Ev (fun k => laws_eqPastS k l m) (decide (l = m)) := by
  refine Ev.step (fun k => laws_eqPastS_eq k l m) (len_ne fun hl => ?_)
  refine EvL.ev (L := fun k j => laws_eqPastS_4 k j l m 0) ?_
  refine eq_loop (fun k j i => laws_eqPastS_4 k j l m (i : Int)) l m (dflt t_impl_Past) hl (fun k j => ?_) fun i hi => ⟨fun k => laws_eqPast k (l.getD i (dflt t_impl_Past)) (m.getD i (dflt t_impl_Past)), eqPast _ _ (hx _ (getD_mem _ _ _ hi)), fun k j => ?_⟩
  · rw [laws_eqPastS_4_eq, decide_eq_false (by omega)]; rfl
  · have c1 : (i : Int) < (l.length : Int) := by omega
    have c2 : (0 : Int) ≤ (i : Int) := by omega
    have c3 : (i : Int) < (m.length : Int) := by omega
    rw [laws_eqPastS_4_eq]
    simp only [decide_eq_true c1, decide_eq_true c2, decide_eq_true c3, cond_true, Int.toNat_natCast, w64n i (by omega)]
theorem eqLane (x y : La) (h : SmallLa x) : Ev (fun k => laws_eqLane k x y) (decide (x = y)) := by
  refine Ev.step (fun k => laws_eqLane_eq k x y) ?_
  by_cases h0 : x.1 = y.1
  · have : (x.1 != y.1) = false := by simpa using h0
    simp only [this, cond_false]
    refine eq_and (q := x.2.2 = y.2.2) (Ev.of 1 fun n => eqState n _ _) (fun _ => ?_) (by rw [Prod.ext_iff, Prod.ext_iff]; simp [h0])
    exact eq_and (q := True) (eqPastS _ _ h.1 h.2) (fun _ => eq_done trivial) (by simp)
  · have : (x.1 != y.1) = true := by simpa using h0
    simp only [this, cond_true]
    exact (Ev.now _).to (by rw [decide_eq_false (fun e => h0 (by rw [e]))])
end Go.Proofs.Ytjgpacfhokpfdaa.SFnExactLaneCut
