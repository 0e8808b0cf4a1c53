/- Whether a word is ok: the reference's WordOk and the program's are one plain function. Words measured, carried over, compared. -/
import Derived.Test.YtiabhdebjajgiaaLanePlFnExactSlotSave
set_option linter.unusedVariables false
set_option linter.unusedSimpArgs false
namespace Go.Proofs.Ytiabhdebjajgiaa.SFnExactSlotSave
open Go Go.Sx Go.Pl

abbrev Wo := Int × Int × Int × Int × Int × Int × Int × List Int × List Int × List Ev7 × List Ou5
def SmallWo (x : Wo) : Prop := x.2.2.2.2.2.2.2.1.length ≤ 1048576 ∧ x.2.2.2.2.2.2.2.2.1.length ≤ 1048576 ∧ x.2.2.2.2.2.2.2.2.2.1.length ≤ 1048576 ∧ x.2.2.2.2.2.2.2.2.2.2.length ≤ 1048576
def LongWo (x : Wo) : Prop := x.2.2.2.2.2.2.2.1.length ≤ maxLen ∧ x.2.2.2.2.2.2.2.2.1.length ≤ maxLen ∧ x.2.2.2.2.2.2.2.2.2.1.length ≤ maxLen ∧ x.2.2.2.2.2.2.2.2.2.2.length ≤ maxLen
def countsM (l : List Int) : Bool := (decide (l.length = 0) || decide (l.length = 3)) && l.all fun x => inB x 0 9999
theorem all_at {α : Type} (l : List α) (d : α) (p : α → Bool) : (List.range l.length).all (fun i => p (l.getD i d)) = l.all p := by
  have key : ∀ (m i : Nat), i + m = l.length → (List.range' i m).all (fun i => p (l.getD i d)) = (l.drop i).all p := by
    intro m
    induction m with
    | zero => intro i hi; rw [List.drop_of_length_le (by omega)]; rfl
    | succ m ih =>
      intro i hi
      rw [List.range'_succ, List.all_cons, ih (i + 1) (by omega), getD_drop l d i (by omega), List.all_cons]
  have := key l.length 0 (by omega)
  rw [List.range_eq_range', this, List.drop_zero]
def wordM (x : Wo) : Bool := inB x.1 1 7 && (inB x.2.1 0 2 && (inB x.2.2.1 0 2 && (inB x.2.2.2.1 0 9999 && (inB x.2.2.2.2.1 0 9999 && (inB x.2.2.2.2.2.1 0 9999 && (inB x.2.2.2.2.2.2.1 0 41 && (countsM x.2.2.2.2.2.2.2.1 && (countsM x.2.2.2.2.2.2.2.2.1 && (eventsM x.2.2.2.2.2.2.2.2.2.1 100 && outsM x.2.2.2.2.2.2.2.2.2.2 96)))))))))
/-! ### measured, carried over, compared -/
theorem szIntS (l : List Int) (c : Int) (h0 : 0 ≤ c) (h1 : c ≤ 1048576) (hl : l.length ≤ maxLen) : ∃ r : Int, Ev (fun k => laws_szIntS k l c) r ∧ r ≤ 1048576 ∧ (0 ≤ r → l.length ≤ 1048576) := by
  obtain ⟨r, h, h2⟩ := sz_flat h0 h1 hl
  exact ⟨r, Ev.step (fun k => laws_szIntS_eq k l c) h, h2⟩
theorem sz_end {g : Nat → Option Int} {p : Prop} (h : ∃ r : Int, Ev g r ∧ r ≤ 1048576 ∧ (0 ≤ r → p)) : ∃ r : Int, Ev (fun k => (g k).bind fun u => cond (decide (u < 0)) (some (-1)) (some u)) r ∧ r ≤ 1048576 ∧ (0 ≤ r → p) := by
  obtain ⟨r, h1, h2, h3⟩ := h
  obtain ⟨r', h5, h6, h7⟩ := sz_and (q := True) (g := fun k u => some u) h1 h2 h3 fun _ => ⟨r, Ev.now _, h2, fun _ => trivial⟩
  exact ⟨r', h5, h6, fun h => (h7 h).1⟩
theorem toIntS (l : List Int) (h : l.length ≤ 1048576) : Ev (fun k => laws_toIntS k l) l := by
  refine Ev.step (fun k => laws_toIntS_eq k l) ?_
  simp only [Int.le_refl, decide_true, cond_true, Int.toNat_natCast]
  rw [decide_eq_true (by omega)]
  simp only [cond_true]
  refine EvL.ev (L := fun k j => laws_toIntS_3 k j l 0 (List.replicate l.length (dflt t_int))) ?_
  refine (copy_loop (fun k j x i => laws_toIntS_3 k j l (i : Int) x) l (dflt t_int) (dflt t_int) id (fun k j x => ?_) fun i hi => ⟨fun k => some (l.getD i (dflt t_int)), Ev.now _, fun k j x hx => ?_⟩).to (List.map_id l)
  · rw [laws_toIntS_3_eq, decide_eq_false (by omega)]; rfl
  · have c1 : (i : Int) < (l.length : Int) := by omega
    have c2 : (0 : Int) ≤ (i : Int) := by omega
    have c3 : (i : Int) < (x.length : Int) := by omega
    have c4 : i < x.length := by omega
    rw [laws_toIntS_3_eq]
    simp only [decide_eq_true c1, decide_eq_true c2, decide_eq_true c3, decide_eq_true c4, cond_true, Int.toNat_natCast, w64n i (by omega), Option.bind_some]
theorem eqIntS (l m : List Int) (h : l.length ≤ 1048576) : Ev (fun k => laws_eqIntS k l m) (decide (l = m)) := by
  refine Ev.step (fun k => laws_eqIntS_eq k l m) (len_ne fun hl => ?_)
  refine EvL.ev (L := fun k j => laws_eqIntS_4 k j l m 0) ?_
  refine eq_loop (fun k j i => laws_eqIntS_4 k j l m (i : Int)) l m (dflt t_int) hl (fun k j => ?_) fun i hi => ⟨fun k => some (decide (l.getD i (dflt t_int) = m.getD i (dflt t_int))), Ev.now _, fun k j => ?_⟩
  · rw [laws_eqIntS_4_eq, decide_eq_false (by omega)]; rfl
  · have c1 : (i : Int) < (l.length : Int) := by omega
    have c2 : (0 : Int) ≤ (i : Int) := by omega
    have c3 : (i : Int) < (m.length : Int) := by omega
    rw [laws_eqIntS_4_eq]
    simp only [decide_eq_true c1, decide_eq_true c2, decide_eq_true c3, cond_true, Int.toNat_natCast, w64n i (by omega), Option.bind_some]
    generalize l.getD i (dflt t_int) = a
    generalize m.getD i (dflt t_int) = b
    by_cases hab : a = b
    · subst hab; simp
    · have : (a != b) = true := bne_iff_ne.2 hab
      simp [this, hab]
instance decWo0 : DecidableEq (List Int × List Int × List Ev7 × List Ou5) := fun a b => inferInstance
instance decWo1 : DecidableEq (Int × Int × Int × List Int × List Int × List Ev7 × List Ou5) := fun a b => inferInstance
instance decWo : DecidableEq Wo := fun a b => inferInstance
theorem ne_and {α : Type} [BEq α] [LawfulBEq α] {x y : α} {h : Nat → Option Bool} {q r : Prop} [Decidable q] [Decidable r] (hh : x = y → Ev h (decide q)) (e : r ↔ x = y ∧ q) : Ev (fun k => cond (x != y) (some false) (h k)) (decide r) := by
  by_cases hx : x = y
  · have : (x != y) = false := by subst hx; simp
    simp only [this, cond_false]
    exact (hh hx).to (by simp [e, hx])
  · have : (x != y) = true := bne_iff_ne.2 hx
    simp only [this, cond_true]
    exact (Ev.now _).to (by simp [e, hx])
end Go.Proofs.Ytiabhdebjajgiaa.SFnExactSlotSave
