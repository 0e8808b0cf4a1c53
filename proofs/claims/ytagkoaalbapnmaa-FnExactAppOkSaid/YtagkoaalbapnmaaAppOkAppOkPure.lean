/- Whether programs are ok, as one plain function: the reference's AppOk and the program's both answer it, of lists of up to 1048576. Types: an op S121, a rule S94, a program S90. -/
import Derived.Test.YtagkoaalbapnmaaLibAppOk
set_option linter.unusedVariables false
set_option linter.unusedSimpArgs false
namespace Go.Proofs.Ytagkoaalbapnmaa.XAppOk
open Go.RowKit Go.Proofs.YtagkoaalbapnmaaW.PrintWords Go.Proofs.YtagkoaalbapnmaaW.PrintLast Go.Proofs.YtagkoaalbapnmaaE

def inB (x a b : Int) : Bool := decide (a ≤ x) && decide (x ≤ b)
theorem specIn (x a b : Int) : spec_l6In.f x a b = some (inB x a b) := by
  unfold spec_l6In.f inB
  by_cases h : a ≤ x
  · rw [if_pos (show x ≥ a from h)]; simp [h]
  · rw [if_neg (show ¬ x ≥ a from h)]; simp [h]
theorem implIn (x a b : Int) : impl_within.f x a b = some (inB x a b) := by
  unfold impl_within.f inB
  by_cases h : a ≤ x
  · rw [if_pos (show x ≥ a from h)]; simp [h]
  · rw [if_neg (show ¬ x ≥ a from h)]; simp [h]
theorem specProc (x : Int) : spec_l1Proc.f x = some (inB x 0 3) := by unfold spec_l1Proc.f; rw [specIn]; rfl
theorem specNum (x : Int) : spec_l1Num.f x = some (inB x 0 999) := by unfold spec_l1Num.f; rw [specIn]; rfl
theorem specReg (x : Int) : spec_l1Reg.f x = some (inB x 0 1) := by unfold spec_l1Reg.f; rw [specIn]; rfl
theorem implProc (x : Int) : impl_isProc.f x = some (inB x 0 3) := by unfold impl_isProc.f; rw [implIn]; rfl
theorem implNum (x : Int) : impl_isNum.f x = some (inB x 0 999) := by unfold impl_isNum.f; rw [implIn]; rfl
theorem implReg (x : Int) : impl_isRegister.f x = some (inB x 0 1) := by unfold impl_isRegister.f; rw [implIn]; rfl
theorem implKind (x : Int) : impl_isKind.f x = some (inB x 0 3) := by unfold impl_isKind.f; rw [implIn]; rfl

def opM (o a b c d : Int) : Bool :=
  if o = 1 ∨ o = 3 then inB a 0 1 && (inB b 0 999 && (decide (c = 0) && d == 0))
  else if o = 2 then inB a 0 1 && (inB b 0 1 && (decide (c = 0) && d == 0))
  else if o = 4 ∨ o = 7 then inB a 0 1 && (decide (b = 0) && (decide (c = 0) && d == 0))
  else if o = 5 then inB a 0 1 && (inB b 0 999 && (inB c 1 8 && d == 0))
  else if o = 6 then inB a 0 3 && (inB b 0 3 && (inB c 1 40 && inB d 0 1))
  else false
theorem and_if (b : Bool) (x : Option Bool) (r : Bool) (h : x = some r) : (if b = true then x else some false) = some (b && r) := by
  cases b <;> simp [h]
theorem and_ifp (p : Prop) [Decidable p] (x : Option Bool) (r : Bool) (h : x = some r) : (if p then x else some false) = some (decide p && r) := by
  by_cases hp : p <;> simp [h, hp]
theorem specOp (k : Nat) (o a b c d : Int) : spec_l1OpOk.f (k + 2) o a b c d = some (opM o a b c d) := by
  unfold spec_l1OpOk.f opM
  simp only [spec_l1OpOk.j0, spec_l1OpOk.j1, specIn, specProc, specNum, specReg, Option.bind_some]
  by_cases h1 : o = 1
  · subst h1
    simp only [if_true, beq_self_eq_true, true_or]
    exact and_if _ _ _ (and_if _ _ _ (and_ifp _ _ _ rfl))
  by_cases h3 : o = 3
  · subst h3
    simp only [if_true, beq_self_eq_true, or_true, if_neg h1]
    exact and_if _ _ _ (and_if _ _ _ (and_ifp _ _ _ rfl))
  have e3 : (o == 3) = false := by simpa using h3
  rw [if_neg h1, e3, if_neg (by decide), if_neg (show ¬ (o = 1 ∨ o = 3) by omega)]
  by_cases h2 : o = 2
  · rw [if_pos h2, if_pos h2]
    exact and_if _ _ _ (and_if _ _ _ (and_ifp _ _ _ rfl))
  rw [if_neg h2, if_neg h2]
  by_cases h4 : o = 4
  · subst h4
    simp only [if_true, beq_self_eq_true, true_or]
    exact and_if _ _ _ (and_ifp _ _ _ (and_ifp _ _ _ rfl))
  by_cases h7 : o = 7
  · subst h7
    simp only [if_true, beq_self_eq_true, or_true, if_neg h4]
    exact and_if _ _ _ (and_ifp _ _ _ (and_ifp _ _ _ rfl))
  have e7 : (o == 7) = false := by simpa using h7
  rw [if_neg h4, e7, if_neg (by decide), if_neg (show ¬ (o = 4 ∨ o = 7) by omega)]
  by_cases h5 : o = 5
  · rw [if_pos h5, if_pos h5]
    exact and_if _ _ _ (and_if _ _ _ (and_if _ _ _ rfl))
  rw [if_neg h5, if_neg h5]
  by_cases h6 : o = 6
  · rw [if_pos h6, if_pos h6]
    exact and_if _ _ _ (and_if _ _ _ (and_if _ _ _ rfl))
  rw [if_neg h6, if_neg h6]
theorem implOp (k : Nat) (o a b c d : Int) : impl_opOk.f (k + 2) o a b c d = some (opM o a b c d) := by
  unfold impl_opOk.f opM
  simp only [impl_opOk.j0, impl_opOk.j1, implIn, implProc, implNum, implReg, implKind, Option.bind_some]
  by_cases h1 : o = 1
  · subst h1
    simp only [if_true, beq_self_eq_true, true_or]
    exact and_if _ _ _ (and_if _ _ _ (and_ifp _ _ _ rfl))
  by_cases h3 : o = 3
  · subst h3
    simp only [if_true, beq_self_eq_true, or_true, if_neg h1]
    exact and_if _ _ _ (and_if _ _ _ (and_ifp _ _ _ rfl))
  have e3 : (o == 3) = false := by simpa using h3
  rw [if_neg h1, e3, if_neg (by decide), if_neg (show ¬ (o = 1 ∨ o = 3) by omega)]
  by_cases h2 : o = 2
  · rw [if_pos h2, if_pos h2]
    exact and_if _ _ _ (and_if _ _ _ (and_ifp _ _ _ rfl))
  rw [if_neg h2, if_neg h2]
  by_cases h4 : o = 4
  · subst h4
    simp only [if_true, beq_self_eq_true, true_or]
    exact and_if _ _ _ (and_ifp _ _ _ (and_ifp _ _ _ rfl))
  by_cases h7 : o = 7
  · subst h7
    simp only [if_true, beq_self_eq_true, or_true, if_neg h4]
    exact and_if _ _ _ (and_ifp _ _ _ (and_ifp _ _ _ rfl))
  have e7 : (o == 7) = false := by simpa using h7
  rw [if_neg h4, e7, if_neg (by decide), if_neg (show ¬ (o = 4 ∨ o = 7) by omega)]
  by_cases h5 : o = 5
  · rw [if_pos h5, if_pos h5]
    exact and_if _ _ _ (and_if _ _ _ (and_if _ _ _ rfl))
  rw [if_neg h5, if_neg h5]
  by_cases h6 : o = 6
  · rw [if_pos h6, if_pos h6]
    exact and_if _ _ _ (and_if _ _ _ (and_if _ _ _ rfl))
  rw [if_neg h6, if_neg h6]
theorem ev2 {α : Type} {g : Nat → Option α} {r : α} (h : ∀ k, g (k + 2) = some r) : Ev g r := ⟨2, fun n hn => by obtain ⟨m, rfl⟩ : ∃ m, n = m + 2 := ⟨n - 2, by omega⟩; exact h m⟩

def opS (x : S121) : Bool := opM x.f0 x.f1 x.f2 x.f3 x.f4
def cnt (o : Int) (l : List S121) : Nat := l.countP fun x => decide (x.f0 = o)
theorem cnt_cons (o : Int) (x : S121) (l : List S121) : cnt o (x :: l) = cnt o l + if x.f0 = o then 1 else 0 := by
  unfold cnt
  rw [List.countP_cons]
  simp
def ruleEnd (n s u : Nat) : Bool := decide (n ≤ 8) && (decide (s ≤ 2) && decide (u ≤ 2))
def ruleM (l : List S121) : Bool := l.all opS && ruleEnd l.length (cnt 6 l) (cnt 7 l)
theorem specRule_ev (kd : Int) (l : List S121) (h : l.length ≤ 1048576) : Ev (fun k => spec_l1RuleOk.f k kd l) (ruleM l) := by
  unfold spec_l1RuleOk.f
  have key : ∀ m i (s u : Nat), i + m = l.length → s ≤ i → u ≤ i → Ev (fun k => spec_l1RuleOk.l0 k (s : Int) (u : Int) (i : Int) kd l) ((l.drop i).all opS && ruleEnd l.length (s + cnt 6 (l.drop i)) (u + cnt 7 (l.drop i))) := by
    intro m
    induction m with
    | zero =>
      intro i s u hi hs hu
      refine Ev.step (f := fun _ => some (ruleEnd l.length s u)) (fun k => ?_) (ev_fun (Ev.now _) ?_)
      · simp only [spec_l1RuleOk.l0]
        rw [if_neg (by omega)]
        unfold ruleEnd
        rw [and_ifp _ _ _ (and_ifp _ _ _ rfl)]
        congr 2
        · exact decide_eq_decide.2 (by omega)
        · congr 1
          · exact decide_eq_decide.2 (by omega)
          · exact decide_eq_decide.2 (by omega)
      · rw [List.drop_of_length_le (by omega)]
        simp [cnt]
    | succ m ih =>
      intro i s u hi hs hu
      have hlt : i < l.length := by omega
      refine Ev.step (f := fun k => (spec_l1OpOk.f k (l.getD i z121).f0 (l.getD i z121).f1 (l.getD i z121).f2 (l.getD i z121).f3 (l.getD i z121).f4).bind fun t => if t = true then (if (l.getD i z121).f0 = 6 then spec_l1RuleOk.l0 k ((s + 1 : Nat) : Int) (u : Int) ((i + 1 : Nat) : Int) kd l else if (l.getD i z121).f0 = 7 then spec_l1RuleOk.l0 k (s : Int) ((u + 1 : Nat) : Int) ((i + 1 : Nat) : Int) kd l else spec_l1RuleOk.l0 k (s : Int) (u : Int) ((i + 1 : Nat) : Int) kd l) else some false) (fun k => ?_) ?_
      · have c1 : (i : Int) < (l.length : Int) := by omega
        have c2 : (0 : Int) ≤ (i : Int) := by omega
        simp only [spec_l1RuleOk.l0, if_pos c1, if_pos c2, w64n i (by omega), w64n s (by omega), w64n u (by omega), rd_T121, Int.toNat_natCast]
        by_cases h6 : (l.getD i z121).f0 = 6
        · have h7 : ¬ (l.getD i z121).f0 = 7 := by omega
          simp only [if_pos h6, if_neg h7]
        · simp only [if_neg h6]
      · refine Ev.bind (ev2 fun k => specOp k _ _ _ _ _) ?_
        rw [getD_drop l z121 i hlt, List.all_cons, cnt_cons, cnt_cons]
        show Ev _ ((opS (l.getD i z121) && _) && _)
        unfold opS
        cases opM (l.getD i z121).f0 (l.getD i z121).f1 (l.getD i z121).f2 (l.getD i z121).f3 (l.getD i z121).f4 with
        | false => exact ev_ite_neg (by decide) (ev_fun (Ev.now _) (by simp))
        | true =>
          refine ev_ite_pos rfl ?_
          by_cases h6 : (l.getD i z121).f0 = 6
          · have h7 : ¬ (l.getD i z121).f0 = 7 := by omega
            refine ev_ite_pos h6 (ev_fun (ih (i + 1) (s + 1) u (by omega) (by omega) (by omega)) ?_)
            rw [if_pos h6, if_neg h7, Bool.true_and]
            congr 2 <;> omega
          · refine ev_ite_neg h6 ?_
            by_cases h7 : (l.getD i z121).f0 = 7
            · refine ev_ite_pos h7 (ev_fun (ih (i + 1) s (u + 1) (by omega) (by omega) (by omega)) ?_)
              rw [if_neg h6, if_pos h7, Bool.true_and]
              congr 2 <;> omega
            · refine ev_ite_neg h7 (ev_fun (ih (i + 1) s u (by omega) (by omega) (by omega)) ?_)
              rw [if_neg h6, if_neg h7, Bool.true_and]
              congr 2 <;> omega
  exact ev_fun (key l.length 0 0 0 (by omega) (by omega) (by omega)) (by simp [ruleM])
theorem implRule_ev (kd : Int) (l : List S121) (h : l.length ≤ 1048576) : Ev (fun k => impl_ruleOk.f k kd l) (l.all opS && (inB kd 0 3 && ruleEnd l.length (cnt 6 l) (cnt 7 l))) := by
  unfold impl_ruleOk.f
  have key : ∀ m i (s u : Nat), i + m = l.length → s ≤ i → u ≤ i → Ev (fun k => impl_ruleOk.l0 k (s : Int) (u : Int) l (l.length : Int) (i : Int) kd l) ((l.drop i).all opS && (inB kd 0 3 && ruleEnd l.length (s + cnt 6 (l.drop i)) (u + cnt 7 (l.drop i)))) := by
    intro m
    induction m with
    | zero =>
      intro i s u hi hs hu
      refine Ev.step (f := fun _ => some (inB kd 0 3 && ruleEnd l.length s u)) (fun k => ?_) (ev_fun (Ev.now _) ?_)
      · simp only [impl_ruleOk.l0, implKind, Option.bind_some]
        rw [if_neg (by omega)]
        unfold ruleEnd
        rw [and_if _ _ _ (and_ifp _ _ _ (and_ifp _ _ _ rfl))]
        congr 3
        · exact decide_eq_decide.2 (by omega)
        · congr 1
          · exact decide_eq_decide.2 (by omega)
          · exact decide_eq_decide.2 (by omega)
      · rw [List.drop_of_length_le (by omega)]
        simp [cnt]
    | succ m ih =>
      intro i s u hi hs hu
      have hlt : i < l.length := by omega
      refine Ev.step (f := fun k => (impl_opOk.f k (l.getD i z121).f0 (l.getD i z121).f1 (l.getD i z121).f2 (l.getD i z121).f3 (l.getD i z121).f4).bind fun t => if t = true then (if (l.getD i z121).f0 = 6 then impl_ruleOk.l0 k ((s + 1 : Nat) : Int) (u : Int) l (l.length : Int) ((i + 1 : Nat) : Int) kd l else if (l.getD i z121).f0 = 7 then impl_ruleOk.l0 k (s : Int) ((u + 1 : Nat) : Int) l (l.length : Int) ((i + 1 : Nat) : Int) kd l else impl_ruleOk.l0 k (s : Int) (u : Int) l (l.length : Int) ((i + 1 : Nat) : Int) kd l) else some false) (fun k => ?_) ?_
      · have c1 : (i : Int) < (l.length : Int) := by omega
        have c2 : (0 : Int) ≤ (i : Int) := by omega
        simp only [impl_ruleOk.l0, if_pos c1, if_pos c2, w64n i (by omega), w64n s (by omega), w64n u (by omega), rd_T121, Int.toNat_natCast]
      · refine Ev.bind (ev2 fun k => implOp k _ _ _ _ _) ?_
        rw [getD_drop l z121 i hlt, List.all_cons, cnt_cons, cnt_cons]
        show Ev _ ((opS (l.getD i z121) && _) && _)
        unfold opS
        cases opM (l.getD i z121).f0 (l.getD i z121).f1 (l.getD i z121).f2 (l.getD i z121).f3 (l.getD i z121).f4 with
        | false => exact ev_ite_neg (by decide) (ev_fun (Ev.now _) (by simp))
        | true =>
          refine ev_ite_pos rfl ?_
          by_cases h6 : (l.getD i z121).f0 = 6
          · have h7 : ¬ (l.getD i z121).f0 = 7 := by omega
            refine ev_ite_pos h6 (ev_fun (ih (i + 1) (s + 1) u (by omega) (by omega) (by omega)) ?_)
            rw [if_pos h6, if_neg h7, Bool.true_and]
            congr 3 <;> omega
          · refine ev_ite_neg h6 ?_
            by_cases h7 : (l.getD i z121).f0 = 7
            · refine ev_ite_pos h7 (ev_fun (ih (i + 1) s (u + 1) (by omega) (by omega) (by omega)) ?_)
              rw [if_neg h6, if_pos h7, Bool.true_and]
              congr 3 <;> omega
            · refine ev_ite_neg h7 (ev_fun (ih (i + 1) s u (by omega) (by omega) (by omega)) ?_)
              rw [if_neg h6, if_neg h7, Bool.true_and]
              congr 3 <;> omega
  exact ev_fun (key l.length 0 0 0 (by omega) (by omega) (by omega)) (by simp)

/-- One rule at its place. -/
def ruleAt (l : List S94) (i : Nat) : Bool := inB (l.getD i z94).f0 0 3 && (ruleM (l.getD i z94).f1 && (decide (i = 0) || decide ((l.getD (i - 1) z94).f0 < (l.getD i z94).f0)))
def appM (l : List S94) : Bool := decide (l.length ≤ 4) && (List.range l.length).all (ruleAt l)
def appS (x : S90) : Bool := appM x.f0
def appsM (l : List S90) : Bool := decide (l.length = 4) && l.all appS
theorem implApp_ev (l : List S94) (h : l.length ≤ 1048576) (hs : ∀ x ∈ l, x.f1.length ≤ 1048576) : Ev (fun k => impl_appOk.f k l) (appM l) := by
  unfold impl_appOk.f appM
  by_cases h4 : (l.length : Int) > 4
  · refine ev_ite_pos h4 (ev_fun (Ev.now _) ?_)
    rw [decide_eq_false (by omega), Bool.false_and]
  refine ev_ite_neg h4 ?_
  rw [decide_eq_true (show l.length ≤ 4 by omega), Bool.true_and]
  refine all_at (fun k i => impl_appOk.l0 k l (l.length : Int) (i : Int) l) l (ruleAt l) ?_ ?_
  · intro k
    simp only [impl_appOk.l0]
    rw [if_neg (by omega)]
  · intro i hi
    refine ⟨fun k => (impl_ruleOk.f k (l.getD i z94).f0 (l.getD i z94).f1).bind fun t => some (t && (decide (i = 0) || decide ((l.getD (i - 1) z94).f0 < (l.getD i z94).f0))), ?_, fun k => ?_⟩
    · refine Ev.bind (implRule_ev _ _ (hs _ (getD_mem l z94 i hi))) (ev_fun (Ev.now _) ?_)
      unfold ruleAt ruleM
      rw [Bool.and_left_comm, Bool.and_assoc]
    · have c1 : (i : Int) < (l.length : Int) := by omega
      have c2 : (0 : Int) ≤ (i : Int) := by omega
      simp only [impl_appOk.l0, if_pos c1, if_pos c2, w64n i (by omega), rd_T94, Int.toNat_natCast, Option.bind_assoc, Option.bind_some]
      congr 1
      funext t
      cases t with
      | false => simp
      | true =>
        simp only [if_true, Bool.true_and]
        by_cases h0 : i = 0
        · subst h0
          simp
        · have c3 : (i : Int) > 0 := by omega
          have e1 : wrap64 ((i : Int) - 1) = ((i - 1 : Nat) : Int) := by unfold wrap64; omega
          have c4 : (0 : Int) ≤ ((i - 1 : Nat) : Int) := by omega
          have c5 : ((i - 1 : Nat) : Int) < (l.length : Int) := by omega
          simp only [if_pos c3, e1, if_pos c4, if_pos c5, Int.toNat_natCast, decide_eq_false h0, Bool.false_or]
          by_cases hge : (l.getD (i - 1) z94).f0 ≥ (l.getD i z94).f0
          · rw [if_pos hge, decide_eq_false (by omega)]; simp
          · rw [if_neg hge, decide_eq_true (by omega)]; simp
theorem implApps_ev (l : List S90) (h : l.length ≤ 1048576) (hs : ∀ x ∈ l, x.f0.length ≤ 1048576 ∧ ∀ y ∈ x.f0, y.f1.length ≤ 1048576) : Ev (fun k => impl_AppOk.f k l) (appsM l) := by
  unfold impl_AppOk.f appsM
  by_cases h4 : (l.length : Int) = 4
  · refine ev_ite_pos h4 ?_
    rw [decide_eq_true (show l.length = 4 by omega), Bool.true_and]
    refine all_loop (fun k i => impl_AppOk.l0 k l (l.length : Int) (i : Int)) l z90 appS ?_ ?_
    · intro k
      simp only [impl_AppOk.l0]
      rw [if_neg (by omega)]
    · intro i hi
      have hm := hs _ (getD_mem l z90 i hi)
      refine ⟨fun k => impl_appOk.f k (l.getD i z90).f0, implApp_ev _ hm.1 hm.2, fun k => ?_⟩
      have c1 : (i : Int) < (l.length : Int) := by omega
      have c2 : (0 : Int) ≤ (i : Int) := by omega
      simp only [impl_AppOk.l0, if_pos c1, if_pos c2, w64n i (by omega), rd_T90, Int.toNat_natCast]
  · refine ev_ite_neg h4 (ev_fun (Ev.now _) ?_)
    rw [decide_eq_false (by omega), Bool.false_and]
theorem specApps_ev (l : List S90) (h : l.length ≤ 1048576) (hs : ∀ x ∈ l, x.f0.length ≤ 1048576 ∧ ∀ y ∈ x.f0, y.f1.length ≤ 1048576) : Ev (fun k => spec_AppOk.f k l) (appsM l) := by
  unfold spec_AppOk.f appsM
  by_cases h4 : (l.length : Int) = 4
  case neg =>
    refine ev_ite_neg h4 (ev_fun (Ev.now _) ?_)
    rw [decide_eq_false (by omega), Bool.false_and]
  refine ev_ite_pos h4 ?_
  rw [decide_eq_true (show l.length = 4 by omega), Bool.true_and]
  refine ev_fun (loop_up (fun k i => spec_AppOk.l0 k l (i : Int)) l.length (fun i => (l.drop i).all appS) ?_ ?_ 0 (by omega)) (by simp)
  · exact Ev.step (f := fun _ => some true) (fun k => by simp only [spec_AppOk.l0]; rw [if_neg (by omega)]) (ev_fun (Ev.now _) (by simp))
  · intro i hi h1
    have hm := hs _ (getD_mem l z90 i hi)
    rw [getD_drop l z90 i hi, List.all_cons]
    show Ev _ (appM (l.getD i z90).f0 && _)
    generalize hr : (l.getD i z90).f0 = rs at hm
    refine Ev.step (f := fun k => if (rs.length : Int) > 4 then some false else spec_AppOk.l1 k l (i : Int) rs 0) (fun k => ?_) ?_
    · have c1 : (i : Int) < (l.length : Int) := by omega
      have c2 : (0 : Int) ≤ (i : Int) := by omega
      simp only [spec_AppOk.l0, if_pos c1, if_pos c2, rd_T90, Int.toNat_natCast, hr]
    unfold appM
    by_cases hl : (rs.length : Int) > 4
    · refine ev_ite_pos hl (ev_fun (Ev.now _) ?_)
      rw [decide_eq_false (show ¬ rs.length ≤ 4 by omega), Bool.false_and, Bool.false_and]
    refine ev_ite_neg hl ?_
    rw [decide_eq_true (show rs.length ≤ 4 by omega), Bool.true_and]
    have e : List.range' 0 rs.length = List.range rs.length := (List.range_eq_range' ..).symm
    rw [← e]
    refine ev_fun (loop_up (fun k j => spec_AppOk.l1 k l (i : Int) rs (j : Int)) rs.length (fun j => (List.range' j (rs.length - j)).all (ruleAt rs) && (l.drop (i + 1)).all appS) ?_ ?_ 0 (by omega)) (by rw [Nat.sub_zero])
    · refine Ev.step (f := fun k => spec_AppOk.l0 k l ((i + 1 : Nat) : Int)) (fun k => ?_) (ev_fun h1 (by simp))
      simp only [spec_AppOk.l1]
      rw [if_neg (by omega), w64n i (by omega)]
    · intro j hj h2
      have e2 : rs.length - j = (rs.length - (j + 1)) + 1 := by omega
      rw [e2, List.range'_succ, List.all_cons, Bool.and_assoc]
      refine Ev.step (f := fun k => if inB (rs.getD j z94).f0 0 3 = true then ((spec_l1RuleOk.f k (rs.getD j z94).f0 (rs.getD j z94).f1).bind fun t => if t = true then (if (decide (j = 0) || decide ((rs.getD (j - 1) z94).f0 < (rs.getD j z94).f0)) = true then spec_AppOk.l1 k l (i : Int) rs ((j + 1 : Nat) : Int) else some false) else some false) else some false) (fun k => ?_) ?_
      · have c1 : (j : Int) < (rs.length : Int) := by omega
        have c2 : (0 : Int) ≤ (j : Int) := by omega
        simp only [spec_AppOk.l1, if_pos c1, if_pos c2, specIn, Option.bind_some, rd_T94, Int.toNat_natCast, w64n j (by omega)]
        congr 2
        funext t
        congr 1
        by_cases h0 : j = 0
        · subst h0
          simp
        · have c3 : (j : Int) > 0 := by omega
          have e1 : wrap64 ((j : Int) - 1) = ((j - 1 : Nat) : Int) := by unfold wrap64; omega
          have c4 : (0 : Int) ≤ ((j - 1 : Nat) : Int) := by omega
          have c5 : ((j - 1 : Nat) : Int) < (rs.length : Int) := by omega
          simp only [if_pos c3, e1, if_pos c4, if_pos c5, Int.toNat_natCast, decide_eq_false h0, Bool.false_or]
          by_cases hge : (rs.getD (j - 1) z94).f0 ≥ (rs.getD j z94).f0
          · rw [if_pos hge, decide_eq_false (by omega)]; simp
          · rw [if_neg hge, decide_eq_true (by omega)]; simp
      · rw [show ruleAt rs j = (inB (rs.getD j z94).f0 0 3 && (ruleM (rs.getD j z94).f1 && (decide (j = 0) || decide ((rs.getD (j - 1) z94).f0 < (rs.getD j z94).f0)))) from rfl]
        cases inB (rs.getD j z94).f0 0 3 with
        | false => exact ev_ite_neg (by decide) (ev_fun (Ev.now _) (by simp))
        | true =>
          refine ev_ite_pos rfl (Ev.bind (specRule_ev _ _ (hm.2 _ (getD_mem rs z94 j hj))) ?_)
          cases ruleM (rs.getD j z94).f1 with
          | false => exact ev_ite_neg (by decide) (ev_fun (Ev.now _) (by simp))
          | true =>
            refine ev_ite_pos rfl ?_
            cases (decide (j = 0) || decide ((rs.getD (j - 1) z94).f0 < (rs.getD j z94).f0)) with
            | false => exact ev_ite_neg (by decide) (ev_fun (Ev.now _) (by simp))
            | true => exact ev_ite_pos rfl (ev_fun h2 (by simp))

end Go.Proofs.Ytagkoaalbapnmaa.XAppOk
