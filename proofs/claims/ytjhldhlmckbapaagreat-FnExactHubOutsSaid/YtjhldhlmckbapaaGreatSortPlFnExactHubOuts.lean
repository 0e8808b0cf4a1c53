/- What is let out, put into its order: by the reference one by one, by the program over a heap. Both are the same. -/
import Derived.Test.YtjhldhlmckbapaaGreatOkPlFnExactHubOuts
import Derived.Test.YtjhldhlmckbapaaGreatOrdPlFnExactHubOuts
import Derived.Test.YtjhldhlmckbapaaGreatHeapPlFnExactHubOuts
set_option linter.unusedVariables false
set_option linter.unusedSimpArgs false
namespace Go.Proofs.YtjhldhlmckbapaaGreat.SFnExactHubOuts
open Go Go.Sx Go.Pl
abbrev dO : Ou5 := dflt t_impl_Out

theorem TotO : Tot lessO := ⟨fun x y h => lexAsym _ _ h, fun x y z h h' => lexTrans _ _ _ h h', fun x y h h' => lessO_tot h h'⟩

theorem okLessO (x y : Ou5) : Ok (fun k => impl_OutLess k x y) (fun b => b = lessO x y) := ⟨_, implOutLess x y, rfl⟩

theorem okSpecLessO (x y : Ou5) : Ok (fun k => spec_OutLess k x y) (fun b => b = lessO x y) := ⟨_, Ev.of 1 fun m => specOutLess m x y, rfl⟩

theorem pushLoop (a : Nat) : ∀ (l : List Ou5), a < l.length → l.length ≤ 1100000 → HeapUp lessO dO l a →
    OkL (fun k j => impl_heap_impl_Out_push_h0_3 k j (a : Int) l) (fun b => Heap lessO dO b.2.1.1 ∧ b.2.1.1.Perm l) := by
  induction a using Nat.strongRecOn with
  | _ a ih =>
    intro l ha hl hh
    refine OkL.step (fun k j => impl_heap_impl_Out_push_h0_3_eq k j (a : Int) l) ?_
    by_cases h0 : a = 0
    · subst h0
      exact OkL.cond (fun h => by simp at h) fun _ => OkL.some ⟨up_end hh (.inl rfl), List.Perm.refl _⟩
    have e1 : IntKind.i64.wrap ((a : Int) - 1) = ((a - 1 : Nat) : Int) := by rw [w64 (by omega) (by omega)]; omega
    have e2 : IntKind.i64.wrap (((a - 1 : Nat) : Int).tdiv 2) = (((a - 1) / 2 : Nat) : Int) := by
      have : ((a - 1 : Nat) : Int).tdiv 2 = (((a - 1) / 2 : Nat) : Int) := by
        rw [Int.tdiv_eq_ediv_of_nonneg (by omega)]; omega
      rw [this, w64 (by omega) (by omega)]
    have c0 : (a : Int) > 0 := by omega
    have c1 : (0 : Int) ≤ (a : Int) := by omega
    have c2 : (a : Int) < (l.length : Int) := by omega
    have c3 : (0 : Int) ≤ (((a - 1) / 2 : Nat) : Int) := by omega
    have c4 : (((a - 1) / 2 : Nat) : Int) < (l.length : Int) := by omega
    have c5 : (a - 1) / 2 < l.length := by omega
    simp only [e1, e2, Int.toNat_natCast, List.length_set, decide_eq_true c0, decide_eq_true c1, decide_eq_true c2, decide_eq_true c3, decide_eq_true c4, decide_eq_true c5, decide_eq_true ha, cond_true]
    refine OkL.bind (okLessO _ _) fun x0 hx => ?_
    subst hx
    refine OkL.cond (fun h => ?_) fun h => ?_
    · have h : lessO (l.getD a dO) (l.getD ((a - 1) / 2) dO) = false := nt h
      exact OkL.some ⟨up_end hh (.inr h), List.Perm.refl _⟩
    · have h : lessO (l.getD a dO) (l.getD ((a - 1) / 2) dO) = true := nf h
      refine OkL.imp (ih ((a - 1) / 2) (by omega) (swp dO l a ((a - 1) / 2)) (by rw [swp_len]; exact c5) (by rw [swp_len]; exact hl) (up_step TotO hh (by omega) ha h)) fun b hb => ⟨hb.1, hb.2.trans (swp_perm _ _ _ _ ha c5)⟩

theorem pushOk (x : Ou5) (l : List Ou5) (hl : l.length < 1100000) (hh : Heap lessO dO l) : Ok (fun k => impl_heap_impl_Out_push_h0 k x l) (fun b => Heap lessO dO b.2.1.1 ∧ b.2.1.1.Perm (l ++ [x])) := by
  refine Ok.step (fun k => impl_heap_impl_Out_push_h0_eq k x l) (Ok.chk (by simp only [List.length_singleton]; omega) ?_)
  have e : IntKind.i64.wrap (((l ++ [x]).length : Int) - 1) = (l.length : Int) := by rw [w64 (by simp <;> omega) (by simp <;> omega)]; simp
  have := (pushLoop l.length (l ++ [x]) (by simp) (by simp <;> omega) (push_up hh x)).ok
  rw [← e] at this
  exact this

theorem popLoop (d0 y3 : Ou5) (m : Nat) : ∀ (a : Nat) (l : List Ou5), l.length - a = m → l.length ≤ 1100000 → a < l.length ∨ a = 0 → HeapDn lessO dO l a →
    OkL (fun k j => impl_heap_impl_Out_pop_h0_6 k j (l.length : Int) (a : Int) d0 y3 l) (fun b => b.1 = y3 ∧ Heap lessO dO b.2.1.1 ∧ b.2.1.1.Perm l) := by
  induction m using Nat.strongRecOn with
  | _ m ih =>
    intro a l hm hl ha0 hh
    refine OkL.step (fun k j => impl_heap_impl_Out_pop_h0_6_eq k j (l.length : Int) (a : Int) d0 y3 l) ?_
    have e1 : IntKind.i64.wrap (2 * (a : Int)) = ((2 * a : Nat) : Int) := by rw [w64 (by omega) (by omega)]; omega
    have e2 : IntKind.i64.wrap (((2 * a : Nat) : Int) + 1) = ((2 * a + 1 : Nat) : Int) := w64n _ (by omega)
    have e3 : IntKind.i64.wrap (((2 * a + 1 : Nat) : Int) + 1) = ((2 * a + 2 : Nat) : Int) := w64n _ (by omega)
    simp only [e1, e2, e3]
    refine OkL.cond (fun h => ?_) fun h => ?_
    · have h : ((2 * a + 1 : Nat) : Int) ≥ (l.length : Int) := of_decide_eq_true h
      have hp : Heap lessO dO l := dn_end hh fun i i0 i1 hp => by omega
      exact OkL.some ⟨rfl, hp, List.Perm.refl _⟩
    have h : ¬ ((2 * a + 1 : Nat) : Int) ≥ (l.length : Int) := of_decide_eq_false h
    have ha : a < l.length := by omega
    have c1 : (0 : Int) ≤ ((2 * a + 1 : Nat) : Int) := by omega
    have c2 : ((2 * a + 1 : Nat) : Int) < (l.length : Int) := by omega
    have c3 : 2 * a + 1 < l.length := by omega
    have c4 : (0 : Int) ≤ (a : Int) := by omega
    have c5 : (a : Int) < (l.length : Int) := by omega
    have c6 : (0 : Int) ≤ ((2 * a + 2 : Nat) : Int) := by omega
    simp only [Int.toNat_natCast, List.length_set, decide_eq_true c1, decide_eq_true c2, decide_eq_true c3, decide_eq_true c4, decide_eq_true c5, decide_eq_true c6, decide_eq_true ha, cond_true]
    have fin : ∀ c, c = 2 * a + 1 ∨ c = 2 * a + 2 → c < l.length → (∀ i, 0 < i → i < l.length → (i - 1) / 2 = a → le lessO (l.getD c dO) (l.getD i dO)) →
        OkL (fun k j => (impl_OutLess k (l.getD c dO) (l.getD a dO)).bind fun x1 => _root_.cond (!x1) (some ((y3, (l, (), ()), ()))) (impl_heap_impl_Out_pop_h0_6 k j (l.length : Int) (c : Int) d0 y3 (swp dO l a c))) (fun b => b.1 = y3 ∧ Heap lessO dO b.2.1.1 ∧ b.2.1.1.Perm l) := by
      intro c hc hcl hmin
      refine OkL.bind (okLessO _ _) fun x hx => ?_
      subst hx
      refine OkL.cond (fun h => ?_) fun h => ?_
      · have h : lessO (l.getD c dO) (l.getD a dO) = false := nt h
        exact OkL.some ⟨rfl, dn_end hh fun i i0 i1 hp => le_tr TotO h (hmin i i0 i1 hp), List.Perm.refl _⟩
      · have h : lessO (l.getD c dO) (l.getD a dO) = true := nf h
        have hd := dn_step TotO hh (by omega) hcl (by omega) hmin h
        rw [swp_comm dO l c a (by omega)] at hd
        have := ih (l.length - c) (by omega) c (swp dO l a c) (by rw [swp_len]) (by rw [swp_len]; exact hl) (.inl (by rw [swp_len]; exact hcl)) hd
        rw [swp_len] at this
        exact this.imp fun b hb => ⟨hb.1, hb.2.1, hb.2.2.trans (swp_perm _ _ _ _ ha hcl)⟩
    refine OkL.cond (fun h2 => ?_) fun h2 => ?_
    · have h2 : ((2 * a + 2 : Nat) : Int) < (l.length : Int) := of_decide_eq_true h2
      have c7 : 2 * a + 2 < l.length := by omega
      simp only [decide_eq_true h2, decide_eq_true c7, cond_true]
      refine OkL.bind (okLessO _ _) fun x hx => ?_
      subst hx
      refine OkL.cond (fun h3 => ?_) fun h3 => ?_
      · have h3 : lessO (l.getD (2 * a + 2) dO) (l.getD (2 * a + 1) dO) = true := h3
        exact fin (2 * a + 2) (.inr rfl) c7 fun i i0 i1 hp => by
          rcases (by omega : i = 2 * a + 1 ∨ i = 2 * a + 2) with rfl | rfl
          · exact le_of TotO h3
          · exact le_rf TotO _
      · have h3 : lessO (l.getD (2 * a + 2) dO) (l.getD (2 * a + 1) dO) = false := h3
        exact fin (2 * a + 1) (.inl rfl) c3 fun i i0 i1 hp => by
          rcases (by omega : i = 2 * a + 1 ∨ i = 2 * a + 2) with rfl | rfl
          · exact le_rf TotO _
          · exact h3
    · have h2 : ¬ ((2 * a + 2 : Nat) : Int) < (l.length : Int) := of_decide_eq_false h2
      exact fin (2 * a + 1) (.inl rfl) c3 fun i i0 i1 hp => by
        rcases (by omega : i = 2 * a + 1 ∨ i = 2 * a + 2) with rfl | rfl
        · exact le_rf TotO _
        · omega

theorem popOk (l : List Ou5) (h0 : 0 < l.length) (hl : l.length ≤ 1100000) (hh : Heap lessO dO l) : Ok (fun k => impl_heap_impl_Out_pop_h0 k l) (fun b => b.1 = l.getD 0 dO ∧ Heap lessO dO b.2.1.1 ∧ b.2.1.1.Perm (rst dO l)) := by
  refine Ok.step (fun k => impl_heap_impl_Out_pop_h0_eq k l) ?_
  have e1 : IntKind.i64.wrap ((l.length : Int) - 1) = ((l.length - 1 : Nat) : Int) := by rw [w64 (by omega) (by omega)]; omega
  have e0 : Int.toNat 0 = 0 := rfl
  have c1 : (0 : Int) < (l.length : Int) := by omega
  have c2 : (0 : Int) ≤ ((l.length - 1 : Nat) : Int) := by omega
  have c3 : ((l.length - 1 : Nat) : Int) < (l.length : Int) := by omega
  have c4 : l.length - 1 < l.length := by omega
  have c5 : ((l.length - 1 : Nat) : Int) ≤ (l.length : Int) := by omega
  simp only [e1, e0, Int.toNat_natCast, List.length_set, decide_eq_true h0, decide_eq_true c1, decide_eq_true c2, decide_eq_true c3, decide_eq_true c4, decide_eq_true c5, cond_true]
  have := (popLoop (0, 0, 0, 0, 0) (l.getD 0 dO) _ 0 (rst dO l) rfl (by rw [rst_len]; omega) (.inr rfl) (rst_dn hh)).ok
  rw [rst_len] at this
  exact this

theorem drainLoop (n : Nat) : ∀ (out l : List Ou5), l.length = n → out.length + n ≤ 1100000 → Heap lessO dO l →
    OkL (fun k j => impl_heap_impl_Out_drain_h0_2 k j out l) (fun b => ∃ s, b.1 = out ++ s ∧ s.Perm l ∧ s.Pairwise (le lessO)) := by
  induction n with
  | zero =>
    intro out l hn hl hh
    refine OkL.step (fun k j => impl_heap_impl_Out_drain_h0_2_eq k j out l) ?_
    have : l = [] := List.eq_nil_of_length_eq_zero hn
    subst this
    exact OkL.cond (fun h => by simp at h) fun _ => OkL.some ⟨[], by simp, List.Perm.refl _, List.Pairwise.nil⟩
  | succ n ih =>
    intro out l hn hl hh
    refine OkL.step (fun k j => impl_heap_impl_Out_drain_h0_2_eq k j out l) (OkL.cond (fun _ => ?_) fun h => absurd (of_decide_eq_false h) (by omega))
    refine OkL.bind (popOk l (by omega) (by omega) hh) fun b hb => ?_
    obtain ⟨p, ⟨l', u1, u2⟩, u3⟩ := b
    obtain ⟨rfl, h2, h3⟩ := hb
    have h2 : Heap lessO dO l' := h2
    have h3 : l'.Perm (rst dO l) := h3
    have hlen : l'.length = n := by rw [h3.length_eq, rst_len]; omega
    refine OkL.chk (by simp only [List.length_singleton]; omega) ?_
    refine OkL.imp (ih (out ++ [l.getD 0 dO]) l' hlen (by simp <;> omega) h2) fun b hb => ?_
    obtain ⟨s, hs, hp, hpw⟩ := hb
    refine ⟨l.getD 0 dO :: s, by rw [hs]; simp, (List.Perm.cons _ (hp.trans h3)).trans (rst_perm dO l (by omega)), List.pairwise_cons.2 ⟨fun y hy => ?_, hpw⟩⟩
    have hy' : y ∈ l := (rst_perm dO l (by omega)).mem_iff.1 (List.mem_cons_of_mem _ ((hp.trans h3).mem_iff.1 hy))
    obtain ⟨i, hi, rfl⟩ := List.getElem_of_mem hy'
    rw [← gD l dO i hi]
    exact root_least TotO hh i hi

theorem sortLoop (a : List Ou5) (hl : a.length ≤ 1048576) (n : Nat) : ∀ (i : Nat) (h : List Ou5), a.length - i = n → i ≤ a.length → h.length = i → Heap lessO dO h →
    OkL (fun k j => impl_OutSort_3 k j a (a.length : Int) (i : Int) h) (fun b => b.Perm (h ++ a.drop i) ∧ b.Pairwise (le lessO)) := by
  induction n with
  | zero =>
    intro i h hn hi hhl hh
    refine OkL.step (fun k j => impl_OutSort_3_eq k j a (a.length : Int) (i : Int) h) (OkL.cond (fun hc => absurd (of_decide_eq_true hc) (by omega)) fun _ => OkL.of ?_)
    refine Ok.bind (P := fun b => b.1.Perm h ∧ b.1.Pairwise (le lessO)) ?_ fun b hb => Ok.some ⟨by rw [List.drop_of_length_le (by omega), List.append_nil]; exact hb.1, hb.2⟩
    refine Ok.step (fun k => impl_heap_impl_Out_drain_h0_eq k h) (Ok.chk (by rw [Int.toNat_natCast]; omega) ?_)
    refine Ok.imp (drainLoop h.length [] h rfl (by simp <;> omega) hh).ok fun b hb => ?_
    obtain ⟨s, h1, h2, h3⟩ := hb
    have h1 : b.1 = s := h1
    rw [h1]
    exact ⟨h2, h3⟩
  | succ n ih =>
    intro i h hn hi hhl hh
    have c1 : (i : Int) < (a.length : Int) := by omega
    refine OkL.step (fun k j => impl_OutSort_3_eq k j a (a.length : Int) (i : Int) h) (OkL.cond (fun _ => OkL.chk (by omega) (OkL.chk c1 ?_)) fun hc => absurd c1 (of_decide_eq_false hc))
    simp only [Int.toNat_natCast, w64n i (by omega)]
    refine OkL.bind (pushOk (a.getD i dO) h (by omega) hh) fun b hb => ?_
    have hlen : b.2.1.1.length = i + 1 := by rw [hb.2.length_eq]; simp; omega
    refine OkL.imp (ih (i + 1) b.2.1.1 (by omega) (by omega) hlen hb.1) fun r hr => ⟨hr.1.trans ?_, hr.2⟩
    rw [getD_drop a dO i (by omega)]
    have := List.Perm.append_right (a.drop (i + 1)) hb.2
    rw [List.append_assoc] at this
    exact this

theorem implOutSort (a : List Ou5) (hl : a.length ≤ 1048576) : Ok (fun k => impl_OutSort k a) (fun b => b.Perm a ∧ b.Pairwise (le lessO)) := by
  refine Ok.step (fun k => impl_OutSort_eq k a) ?_
  exact Ok.imp (sortLoop a hl _ 0 [] rfl (by omega) rfl (fun i i0 i1 => absurd i1 (by simp))).ok fun b hb => ⟨by simpa using hb.1, hb.2⟩

theorem insLoop (a : List Ou5) (hl : a.length ≤ 1048576) (i : Nat) (hi : i < a.length) (s : List Ou5) (hs : s.length = i) (hpw : s.Pairwise (le lessO)) {Q : List Ou5 → Prop}
    (hnext : ∀ k, (insM lessO (a.getD i dO) s k).Pairwise (le lessO) → OkL (fun k' j => spec_OutSort_3 k' j a ((i + 1 : Nat) : Int) (insM lessO (a.getD i dO) s k)) Q) :
    ∀ (m : Nat), m ≤ s.length → (∀ y ∈ s.drop m, le lessO (a.getD i dO) y) → Ok3 (fun k j0 j => spec_OutSort_6 k j0 j a (i : Int) (m : Int) s) Q := by
  intro m
  have c1 : (0 : Int) ≤ (i : Int) := by omega
  have c2 : (i : Int) < (a.length : Int) := by omega
  induction m with
  | zero =>
    intro hm hd
    refine Ok3.step (fun k j0 j => spec_OutSort_6_eq k j0 j a (i : Int) (0 : Nat) s) (Ok3.cond (fun h => by simp at h) fun _ => ?_)
    refine Ok3.chk (by omega) (Ok3.chk (by omega) (Ok3.chk (by simp) (Ok3.chk c1 (Ok3.chk c2 (Ok3.chk (by simp) (Ok3.chk (by omega) (Ok3.chk (by omega) (Ok3.chk (by omega) (Ok3.chk (by simp <;> omega) ?_)))))))))
    simp only [Int.toNat_natCast, w64n i (by omega), List.take_length]
    exact Ok3.out (hnext 0 (ins_sorted TotO hpw (by simp) hd))
  | succ m ih =>
    intro hm hd
    have e1 : IntKind.i64.wrap (((m + 1 : Nat) : Int) - 1) = (m : Int) := by rw [w64 (by omega) (by omega)]; omega
    have c3 : (m : Int) < (s.length : Int) := by omega
    have c4 : m < s.length := by omega
    have c5 : (0 : Int) ≤ (m : Int) := by omega
    refine Ok3.step (fun k j0 j => spec_OutSort_6_eq k j0 j a (i : Int) ((m + 1 : Nat) : Int) s) (Ok3.cond (fun _ => ?_) fun h => absurd (of_decide_eq_false h) (by omega))
    simp only [e1, Int.toNat_natCast, decide_eq_true c1, decide_eq_true c2, decide_eq_true c3, decide_eq_true c4, decide_eq_true c5, cond_true]
    refine Ok3.bind (okSpecLessO _ _) fun x hx => ?_
    subst hx
    refine Ok3.cond (fun h => ?_) fun h => ?_
    · have h : lessO (a.getD i dO) (s.getD m dO) = true := h
      refine ih (by omega) fun y hy => ?_
      rw [getD_drop s dO m c4] at hy
      rcases List.mem_cons.1 hy with rfl | hy
      · exact le_of TotO h
      · exact hd y hy
    · have h : lessO (a.getD i dO) (s.getD m dO) = false := h
      refine Ok3.chk (by omega) (Ok3.chk (by omega) (Ok3.chk (by simp <;> omega) (Ok3.chk (by simp <;> omega) (Ok3.chk (by omega) (Ok3.chk (by omega) (Ok3.chk (by omega) (Ok3.chk (by simp <;> omega) ?_)))))))
      simp only [Int.toNat_natCast, w64n i (by omega), List.take_length]
      refine Ok3.out (hnext (m + 1) (ins_sorted TotO hpw (fun y hy => ?_) hd))
      obtain ⟨n, hn, rfl⟩ := List.getElem_of_mem hy
      rw [List.length_take] at hn
      rw [List.getElem_take]
      by_cases hnm : n = m
      · subst hnm; rw [← gD s dO n c4]; exact h
      · have := List.pairwise_iff_getElem.1 hpw n m (by omega) c4 (by omega)
        rw [← gD s dO m c4] at this
        exact le_tr TotO this h

theorem specLoop (a : List Ou5) (hl : a.length ≤ 1048576) (n : Nat) : ∀ (i : Nat) (s : List Ou5), a.length - i = n → i ≤ a.length → s.length = i → s.Pairwise (le lessO) →
    OkL (fun k j => spec_OutSort_3 k j a (i : Int) s) (fun b => b.Perm (s ++ a.drop i) ∧ b.Pairwise (le lessO)) := by
  induction n with
  | zero =>
    intro i s hn hi hs hpw
    refine OkL.step (fun k j => spec_OutSort_3_eq k j a (i : Int) s) (OkL.cond (fun hc => absurd (of_decide_eq_true hc) (by omega)) fun _ => OkL.some ⟨?_, hpw⟩)
    rw [List.drop_of_length_le (by omega), List.append_nil]
  | succ n ih =>
    intro i s hn hi hs hpw
    have c1 : (i : Int) < (a.length : Int) := by omega
    refine OkL.step (fun k j => spec_OutSort_3_eq k j a (i : Int) s) (OkL.cond (fun _ => ?_) fun hc => absurd c1 (of_decide_eq_false hc))
    refine Ok3.inn (L := fun k j0 j => spec_OutSort_6 k j0 j a (i : Int) (s.length : Int) s) (insLoop a hl i (by omega) s hs hpw (fun m hm => ?_) s.length (Nat.le_refl _) (by simp))
    have hp := ins_perm lessO (a.getD i dO) s m
    refine OkL.imp (ih (i + 1) _ (by omega) (by omega) (by rw [hp.length_eq]; simp; omega) hm) fun b hb => ⟨hb.1.trans ?_, hb.2⟩
    rw [getD_drop a dO i (by omega)]
    have := List.Perm.append_right (a.drop (i + 1)) hp
    rw [List.append_assoc] at this
    exact this

theorem specOutSort (a : List Ou5) (hl : a.length ≤ 1048576) : Ok (fun k => spec_OutSort k a) (fun b => b.Perm a ∧ b.Pairwise (le lessO)) := by
  refine Ok.step (fun k => spec_OutSort_eq k a) ?_
  exact Ok.imp (specLoop a hl _ 0 [] rfl (by omega) rfl List.Pairwise.nil).ok fun b hb => ⟨by simpa using hb.1, hb.2⟩

/-- Both put it into the one order. -/
theorem outSorts (a : List Ou5) (hl : a.length ≤ 1048576) : ∃ s, Ev (fun k => spec_OutSort k a) s ∧ Ev (fun k => impl_OutSort k a) s ∧ s.Perm a ∧ s.Pairwise (le lessO) := by
  obtain ⟨s, h1, h2, h3⟩ := specOutSort a hl
  obtain ⟨t, h4, h5, h6⟩ := implOutSort a hl
  have : t = s := sorted_eq TotO h6 h3 (h5.trans h2.symm)
  subst this
  exact ⟨t, h1, h4, h2, h3⟩
end Go.Proofs.YtjhldhlmckbapaaGreat.SFnExactHubOuts
