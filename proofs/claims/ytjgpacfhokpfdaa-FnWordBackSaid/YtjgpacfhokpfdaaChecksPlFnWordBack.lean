/- Whether a state, events, and what is let out, are ok: the reference's checks and the program's are the same plain functions. -/
import Derived.Test.YtjgpacfhokpfdaaFFnWordBack
import Derived.Test.YtjgpacfhokpfdaaPl
set_option linter.unusedVariables false
set_option linter.unusedSimpArgs false
namespace Go.Proofs.Ytjgpacfhokpfdaa.SFnWordBack
open Go Go.Sx Go.Pl

abbrev Ev7 := Int × Int × Int × Int × Int × Int × Int
abbrev Ou5 := Int × Int × Int × Int × Int
abbrev St3 := Int × Int × Int
abbrev Pa := Ev7 × St3 × List Ev7 × List Ou5
abbrev La := Int × St3 × List Pa

def inB (x a b : Int) : Bool := decide (a ≤ x) && decide (x ≤ b)
def stM (x : St3) : Bool := inB x.1 0 999 && (inB x.2.1 0 999 && inB x.2.2 0 12)
def evM (x : Ev7) : Bool := inB x.1 0 40 && (inB x.2.1 0 3 && (inB x.2.2.1 (-1) 3 && (inB x.2.2.2.1 0 12 && (inB x.2.2.2.2.1 0 3 && (inB x.2.2.2.2.2.1 0 3 && inB x.2.2.2.2.2.2 0 999)))))
def ouM (x : Ou5) : Bool := inB x.1 0 40 && (inB x.2.1 0 3 && (inB x.2.2.1 0 11 && (inB x.2.2.2.1 0 1 && inB x.2.2.2.2 0 999)))
/-- Less, number by number. -/
def lexM : List Int → List Int → Bool
  | x :: xs, y :: ys => decide (x < y) || (decide (x = y) && lexM xs ys)
  | [], _ :: _ => true
  | _, [] => false
def evL (x : Ev7) : List Int := [x.1, x.2.1, x.2.2.1, x.2.2.2.1, x.2.2.2.2.1, x.2.2.2.2.2.1, x.2.2.2.2.2.2]
def ouL (x : Ou5) : List Int := [x.1, x.2.1, x.2.2.1, x.2.2.2.1, x.2.2.2.2]
def lessE (x y : Ev7) : Bool := lexM (evL x) (evL y)
def lessO (x y : Ou5) : Bool := lexM (ouL x) (ouL y)
def eventsM (l : List Ev7) (n : Int) : Bool := decide ((l.length : Int) ≤ n) && listM evM lessE l
def outsM (l : List Ou5) (n : Int) : Bool := decide ((l.length : Int) ≤ n) && listM ouM lessO l

theorem specIn (k : Nat) (x a b : Int) : spec_l6In (k + 1) x a b = some (inB x a b) := by
  rw [spec_l6In_eq, cS, cA]; rfl
theorem implIn (k : Nat) (x a b : Int) : impl_within (k + 1) x a b = some (inB x a b) := by
  rw [impl_within_eq, cS, cA]; rfl
theorem specProc (k : Nat) (x : Int) : spec_l1Proc (k + 2) x = some (inB x 0 3) := by rw [spec_l1Proc_eq, specIn]; rfl
theorem specNum (k : Nat) (x : Int) : spec_l1Num (k + 2) x = some (inB x 0 999) := by rw [spec_l1Num_eq, specIn]; rfl
theorem implProc (k : Nat) (x : Int) : impl_isProc (k + 2) x = some (inB x 0 3) := by rw [impl_isProc_eq, implIn]; rfl
theorem implNum (k : Nat) (x : Int) : impl_isNum (k + 2) x = some (inB x 0 999) := by rw [impl_isNum_eq, implIn]; rfl
theorem implKind (k : Nat) (x : Int) : impl_isKind (k + 2) x = some (inB x 0 3) := by rw [impl_isKind_eq, implIn]; rfl
theorem specEvent (k : Nat) (x : Ev7) : spec_l1EventOk (k + 3) x = some (evM x) := by
  simp only [spec_l1EventOk_eq, specIn, specProc, specNum, Option.bind_some, cS, cA]; rfl
theorem implEvent (k : Nat) (x : Ev7) : impl_eventOk (k + 3) x = some (evM x) := by
  simp only [impl_eventOk_eq, implIn, implProc, implNum, implKind, Option.bind_some, cS, cA]; rfl
theorem lex_ne {x y : Int} {xs ys : List Int} (b : Bool) (h : x = y → b = lexM xs ys) : cond (x != y) (decide (x < y)) b = lexM (x :: xs) (y :: ys) := by
  unfold lexM
  by_cases hx : x = y
  · subst hx; simp [h]
  · have : (x != y) = true := by simpa using hx
    rw [this]; simp [hx]
theorem lex_last (x y : Int) : decide (x < y) = lexM [x] [y] := by unfold lexM; simp [lexM]
theorem specEventLess (k : Nat) (x y : Ev7) : spec_EventLess (k + 1) x y = some (lessE x y) := by
  simp only [spec_EventLess_eq, cS]
  congr 1
  exact lex_ne _ fun _ => lex_ne _ fun _ => lex_ne _ fun _ => lex_ne _ fun _ => lex_ne _ fun _ => lex_ne _ fun _ => lex_last _ _
theorem specOutLess (k : Nat) (x y : Ou5) : spec_OutLess (k + 1) x y = some (lessO x y) := by
  simp only [spec_OutLess_eq, cS]
  congr 1
  exact lex_ne _ fun _ => lex_ne _ fun _ => lex_ne _ fun _ => lex_ne _ fun _ => lex_last _ _
def cmpM : List Int → List Int → Int
  | [], [] => 0
  | [], _ :: _ => -1
  | _ :: _, [] => 1
  | x :: xs, y :: ys => if x < y then -1 else if x > y then 1 else cmpM xs ys
theorem cmpLex : ∀ a b, decide (cmpM a b < 0) = lexM a b
  | [], [] => rfl
  | [], _ :: _ => rfl
  | _ :: _, [] => rfl
  | x :: xs, y :: ys => by
    unfold cmpM lexM
    by_cases h1 : x < y
    · simp [h1]
    · by_cases h2 : x > y
      · have : ¬ x = y := by omega
        simp [h1, h2, this]
      · have : x = y := by omega
        subst this
        simp [cmpLex xs ys]
theorem cmpInt (k : Nat) (a b : Int) : cmp_Compare_int (k + 2) a b = some (if a < b then -1 else if a > b then 1 else 0) := by
  simp only [cmp_Compare_int_eq, cmp_isNaN_int_eq, Option.bind_some]
  simp
  by_cases h1 : a < b
  · simp [h1]
  · by_cases h2 : b < a <;> simp [h1, h2]
theorem compare_ev (a b : List Int) (h : a.length ≤ 1048576) : Ev (fun k => slices_Compare_int_int k a b) (cmpM a b) := by
  refine Ev.step (fun k => slices_Compare_int_int_eq k a b) ?_
  refine (EvL.ev (L := fun k j => slices_Compare_int_int_2 k j a b a (a.length : Int) 0) ?_)
  refine (loop_up (fun k j i => slices_Compare_int_int_2 k j a b a (a.length : Int) (i : Int)) a.length (fun i => cmpM (a.drop i) (b.drop i)) ?_ (fun i hi h1 => ?_) 0 (by omega)).to (by simp)
  · refine EvL.step (M := fun _ _ => cond (decide ((a.length : Int) < (b.length : Int))) (some (-1)) (some 0)) (fun k j => ?_) (EvL.cond (fun hl => (EvL.now _).to ?_) fun hl => (EvL.now _).to ?_)
    · rw [slices_Compare_int_int_2_eq, decide_eq_false (by omega)]; rfl
    · have hl : (a.length : Int) < (b.length : Int) := by simpa using hl
      rw [List.drop_length, getD_drop b 0 a.length (by omega)]; rfl
    · have hl : ¬ (a.length : Int) < (b.length : Int) := by simpa using hl
      rw [List.drop_length, List.drop_of_length_le (by omega)]; rfl
  · have c1 : (i : Int) < (a.length : Int) := by omega
    have c2 : (0 : Int) ≤ (i : Int) := by omega
    refine EvL.step (fun k j => slices_Compare_int_int_2_eq k j a b a _ _) ?_
    simp only [decide_eq_true c1, decide_eq_true c2, cond_true, Int.toNat_natCast, w64n i (by omega)]
    rw [getD_drop a (dflt t_int) i hi]
    refine EvL.cond (fun hb => (EvL.now _).to ?_) fun hb => ?_
    · have hb : (i : Int) ≥ (b.length : Int) := by simpa using hb
      rw [List.drop_of_length_le (by omega : b.length ≤ i)]; rfl
    · have hb : (i : Int) < (b.length : Int) := by simpa using hb
      simp only [decide_eq_true hb, cond_true]
      rw [getD_drop b (dflt t_int) i (by omega)]
      refine EvL.bind (Ev.of 2 fun m => cmpInt m _ _) ?_
      generalize a.getD i (dflt t_int) = x
      generalize b.getD i (dflt t_int) = y
      unfold cmpM
      by_cases l1 : x < y
      · simp only [if_pos l1]; exact EvL.now _
      · by_cases l2 : x > y
        · simp only [if_neg l1, if_pos l2]; exact EvL.now _
        · simp only [if_neg l1, if_neg l2, bne_self_eq_false, cond_false]; exact h1
theorem implEventLess (x y : Ev7) : Ev (fun k => impl_EventLess k x y) (lessE x y) := by
  refine Ev.step (fun k => impl_EventLess_eq k x y) ?_
  refine Ev.bind (Ev.of 1 fun m => impl_keyOf_eq m x) (Ev.bind (Ev.of 1 fun m => impl_keyOf_eq m y) (Ev.bind (b := lessE x y) ?_ (Ev.now _)))
  refine Ev.step (fun k => impl_keyLess_eq k _ _) (Ev.bind (compare_ev _ _ (by simp)) ((Ev.now _).to (cmpLex _ _)))
theorem implOutLess (x y : Ou5) : Ev (fun k => impl_OutLess k x y) (lessO x y) := by
  refine Ev.step (fun k => impl_OutLess_eq k x y) (Ev.bind (compare_ev _ _ (by simp)) ((Ev.now _).to (cmpLex _ _)))

/-! ### lists of them -/
theorem dec_gt (i : Nat) : decide ((i : Int) > 0) = decide (0 < i) := by congr 1; exact propext (by omega)
theorem specEvents_ev (l : List Ev7) (n : Int) (h : l.length ≤ 1048576) : Ev (fun k => spec_l2Events k l n) (eventsM l n) := by
  refine Ev.step (fun k => spec_l2Events_eq k l n) (Ev.cond (fun hn => (Ev.now _).to ?_) fun hn => ?_)
  · have hn : (l.length : Int) > n := by simpa using hn
    unfold eventsM; rw [decide_eq_false (by omega), Bool.false_and]
  have hn : ¬ (l.length : Int) > n := by simpa using hn
  unfold eventsM
  rw [decide_eq_true (by omega), Bool.true_and]
  refine EvL.ev (L := fun k j => spec_l2Events_4 k j l 0) ?_
  refine pair_loop (fun k j i => spec_l2Events_4 k j l (i : Int)) l (dflt t_impl_Event) evM lessE (fun k j => ?_) fun i hi => ⟨fun k => spec_l1EventOk k (l.getD i (dflt t_impl_Event)), fun k => spec_EventLess k (l.getD (i - 1) (dflt t_impl_Event)) (l.getD i (dflt t_impl_Event)), Ev.of 3 fun m => specEvent m _, fun _ => Ev.of 1 fun m => specEventLess m _ _, fun k j => ?_⟩
  · rw [spec_l2Events_4_eq, decide_eq_false (by omega)]; rfl
  · have c1 : (i : Int) < (l.length : Int) := by omega
    have c2 : (0 : Int) ≤ (i : Int) := by omega
    rw [spec_l2Events_4_eq]
    simp only [decide_eq_true c1, decide_eq_true c2, cond_true, Int.toNat_natCast, w64n i (by omega), dec_gt]
    by_cases h0 : 0 < i
    · have e1 : IntKind.i64.wrap ((i : Int) - 1) = ((i - 1 : Nat) : Int) := by rw [w64 (by omega) (by omega)]; omega
      have c4 : (0 : Int) ≤ ((i - 1 : Nat) : Int) := by omega
      have c5 : ((i - 1 : Nat) : Int) < (l.length : Int) := by omega
      simp only [decide_eq_true h0, cond_true, e1, decide_eq_true c4, decide_eq_true c5, Int.toNat_natCast]
    · simp only [decide_eq_false h0, cond_false]
theorem implEvents_ev (l : List Ev7) (n : Int) (h : l.length ≤ 1048576) : Ev (fun k => impl_eventsOk k l n) (eventsM l n) := by
  refine Ev.step (fun k => impl_eventsOk_eq k l n) (Ev.cond (fun hn => (Ev.now _).to ?_) fun hn => ?_)
  · have hn : (l.length : Int) > n := by simpa using hn
    unfold eventsM; rw [decide_eq_false (by omega), Bool.false_and]
  have hn : ¬ (l.length : Int) > n := by simpa using hn
  unfold eventsM
  rw [decide_eq_true (by omega), Bool.true_and]
  refine EvL.ev (L := fun k j => impl_eventsOk_4 k j l l (l.length : Int) 0) ?_
  refine pair_loop (fun k j i => impl_eventsOk_4 k j l l (l.length : Int) (i : Int)) l (dflt t_impl_Event) evM lessE (fun k j => ?_) fun i hi => ⟨fun k => impl_eventOk k (l.getD i (dflt t_impl_Event)), fun k => impl_EventLess k (l.getD (i - 1) (dflt t_impl_Event)) (l.getD i (dflt t_impl_Event)), Ev.of 3 fun m => implEvent m _, fun _ => implEventLess _ _, fun k j => ?_⟩
  · rw [impl_eventsOk_4_eq, decide_eq_false (by omega)]; rfl
  · have c1 : (i : Int) < (l.length : Int) := by omega
    have c2 : (0 : Int) ≤ (i : Int) := by omega
    rw [impl_eventsOk_4_eq]
    simp only [decide_eq_true c1, decide_eq_true c2, cond_true, Int.toNat_natCast, w64n i (by omega), dec_gt]
    by_cases h0 : 0 < i
    · have e1 : IntKind.i64.wrap ((i : Int) - 1) = ((i - 1 : Nat) : Int) := by rw [w64 (by omega) (by omega)]; omega
      have c4 : (0 : Int) ≤ ((i - 1 : Nat) : Int) := by omega
      have c5 : ((i - 1 : Nat) : Int) < (l.length : Int) := by omega
      simp only [decide_eq_true h0, cond_true, e1, decide_eq_true c4, decide_eq_true c5, Int.toNat_natCast]
    · simp only [decide_eq_false h0, cond_false]
theorem specOuts_ev (l : List Ou5) (n : Int) (h : l.length ≤ 1048576) : Ev (fun k => spec_l2Outs k l n) (outsM l n) := by
  refine Ev.step (fun k => spec_l2Outs_eq k l n) (Ev.cond (fun hn => (Ev.now _).to ?_) fun hn => ?_)
  · have hn : (l.length : Int) > n := by simpa using hn
    unfold outsM; rw [decide_eq_false (by omega), Bool.false_and]
  have hn : ¬ (l.length : Int) > n := by simpa using hn
  unfold outsM
  rw [decide_eq_true (by omega), Bool.true_and, listM_range (α := Ou5) (dflt t_impl_Out)]
  refine EvL.ev (L := fun k j => spec_l2Outs_4 k j l 0) ?_
  refine all_loop (fun k j i => spec_l2Outs_4 k j l (i : Int)) l (dflt t_impl_Out) _ (fun k j => ?_) fun i hi rest hr => ?_
  · rw [spec_l2Outs_4_eq, decide_eq_false (by omega)]; rfl
  · have c1 : (i : Int) < (l.length : Int) := by omega
    have c2 : (0 : Int) ≤ (i : Int) := by omega
    refine EvL.step (fun k j => spec_l2Outs_4_eq k j l (i : Int)) ?_
    simp only [decide_eq_true c1, decide_eq_true c2, cond_true, Int.toNat_natCast, w64n i (by omega), dec_gt]
    simp only [pairAt, ouM, Bool.and_assoc]
    refine EvL.and (Ev.of 1 fun m => specIn m _ _ _) fun _ => EvL.and (Ev.of 2 fun m => specProc m _) fun _ => EvL.and (Ev.of 1 fun m => specIn m _ _ _) fun _ => EvL.and (Ev.of 1 fun m => specIn m _ _ _) fun _ => EvL.and (Ev.of 2 fun m => specNum m _) fun _ => ?_
    refine (EvL.pair (g := fun k => spec_OutLess k (l.getD (i - 1) (dflt t_impl_Out)) (l.getD i (dflt t_impl_Out))) (fun _ => Ev.of 1 fun m => specOutLess m _ _) hr).congr fun k j => ?_
    by_cases h0 : 0 < i
    · have e1 : IntKind.i64.wrap ((i : Int) - 1) = ((i - 1 : Nat) : Int) := by rw [w64 (by omega) (by omega)]; omega
      have c4 : (0 : Int) ≤ ((i - 1 : Nat) : Int) := by omega
      have c5 : ((i - 1 : Nat) : Int) < (l.length : Int) := by omega
      simp only [decide_eq_true h0, cond_true, e1, decide_eq_true c4, decide_eq_true c5, Int.toNat_natCast]
    · simp only [decide_eq_false h0, cond_false]
theorem implOuts_ev (l : List Ou5) (n : Int) (h : l.length ≤ 1048576) : Ev (fun k => impl_outsOk k l n) (outsM l n) := by
  refine Ev.step (fun k => impl_outsOk_eq k l n) (Ev.cond (fun hn => (Ev.now _).to ?_) fun hn => ?_)
  · have hn : (l.length : Int) > n := by simpa using hn
    unfold outsM; rw [decide_eq_false (by omega), Bool.false_and]
  have hn : ¬ (l.length : Int) > n := by simpa using hn
  unfold outsM
  rw [decide_eq_true (by omega), Bool.true_and, listM_range (α := Ou5) (dflt t_impl_Out)]
  refine EvL.ev (L := fun k j => impl_outsOk_4 k j l l (l.length : Int) 0) ?_
  refine all_loop (fun k j i => impl_outsOk_4 k j l l (l.length : Int) (i : Int)) l (dflt t_impl_Out) _ (fun k j => ?_) fun i hi rest hr => ?_
  · rw [impl_outsOk_4_eq, decide_eq_false (by omega)]; rfl
  · have c1 : (i : Int) < (l.length : Int) := by omega
    have c2 : (0 : Int) ≤ (i : Int) := by omega
    refine EvL.step (fun k j => impl_outsOk_4_eq k j l l (l.length : Int) (i : Int)) ?_
    simp only [decide_eq_true c1, decide_eq_true c2, cond_true, Int.toNat_natCast, w64n i (by omega), dec_gt]
    simp only [pairAt, ouM, Bool.and_assoc]
    refine EvL.and' (Ev.of 1 fun m => implIn m _ _ _) fun _ => EvL.and' (Ev.of 2 fun m => implProc m _) fun _ => EvL.and' (Ev.of 1 fun m => implIn m _ _ _) fun _ => EvL.and' (Ev.of 1 fun m => implIn m _ _ _) fun _ => EvL.and (Ev.of 2 fun m => implNum m _) fun _ => ?_
    refine (EvL.pair (g := fun k => impl_OutLess k (l.getD (i - 1) (dflt t_impl_Out)) (l.getD i (dflt t_impl_Out))) (fun _ => implOutLess _ _) hr).congr fun k j => ?_
    by_cases h0 : 0 < i
    · have e1 : IntKind.i64.wrap ((i : Int) - 1) = ((i - 1 : Nat) : Int) := by rw [w64 (by omega) (by omega)]; omega
      have c4 : (0 : Int) ≤ ((i - 1 : Nat) : Int) := by omega
      have c5 : ((i - 1 : Nat) : Int) < (l.length : Int) := by omega
      simp only [decide_eq_true h0, cond_true, e1, decide_eq_true c4, decide_eq_true c5, Int.toNat_natCast]
    · simp only [decide_eq_false h0, cond_false]
end Go.Proofs.Ytjgpacfhokpfdaa.SFnWordBack
