/- The heap of events' keys; the reference's EventSort with what it holds. -/
import Derived.Test.YtjhldhlmckbapaaGreatOkPlFnExactHubOuts
import Derived.Test.YtjhldhlmckbapaaGreatOrdPlFnExactHubOuts
import Derived.Test.YtjhldhlmckbapaaGreatHeapPlFnExactHubOuts
set_option linter.unusedVariables false
set_option linter.unusedSimpArgs false
namespace Go.Proofs.YtjhldhlmckbapaaGreat.SFnExactHubOuts
open Go Go.Sx Go.Pl
abbrev dE : Ev7 := dflt t_impl_Event

theorem TotE : Tot lessE := ⟨fun x y h => lexAsym _ _ h, fun x y z h h' => lexTrans _ _ _ h h', fun x y h h' => lessE_tot h h'⟩

theorem implKeyLess (x y : Ev7) : Ev (fun k => impl_keyLess k x y) (lessE x y) :=
  Ev.step (fun k => impl_keyLess_eq k _ _) (Ev.bind (compare_ev _ _ (by simp)) ((Ev.now _).to (cmpLex _ _)))

theorem okKeyLess (x y : Ev7) : Ok (fun k => impl_keyLess k x y) (fun b => b = lessE x y) := ⟨_, implKeyLess x y, rfl⟩

theorem okSpecLessE (x y : Ev7) : Ok (fun k => spec_EventLess k x y) (fun b => b = lessE x y) := ⟨_, Ev.of 1 fun m => specEventLess m x y, rfl⟩

theorem pushLoopK (a : Nat) : ∀ (l : List Ev7), a < l.length → l.length ≤ 1100000 → HeapUp lessE dE l a →
    OkL (fun k j => impl_heap_impl_eventKey_push_h0_3 k j (a : Int) l) (fun b => Heap lessE dE b.2.1.1 ∧ b.2.1.1.Perm l) := by
  induction a using Nat.strongRecOn with
  | _ a ih =>
    intro l ha hl hh
    refine OkL.step (fun k j => impl_heap_impl_eventKey_push_h0_3_eq k j (a : Int) l) ?_
    by_cases h0 : a = 0
    · subst h0
      exact OkL.cond (fun h => by simp at h) fun _ => OkL.some ⟨up_end hh (.inl rfl), List.Perm.refl _⟩
    have e1 : IntKind.i64.wrap ((a : Int) - 1) = ((a - 1 : Nat) : Int) := by rw [w64 (by omega) (by omega)]; omega
    have e2 : IntKind.i64.wrap (((a - 1 : Nat) : Int).tdiv 2) = (((a - 1) / 2 : Nat) : Int) := by
      have : ((a - 1 : Nat) : Int).tdiv 2 = (((a - 1) / 2 : Nat) : Int) := by
        rw [Int.tdiv_eq_ediv_of_nonneg (by omega)]; omega
      rw [this, w64 (by omega) (by omega)]
    have c0 : (a : Int) > 0 := by omega
    have c1 : (0 : Int) ≤ (a : Int) := by omega
    have c2 : (a : Int) < (l.length : Int) := by omega
    have c3 : (0 : Int) ≤ (((a - 1) / 2 : Nat) : Int) := by omega
    have c4 : (((a - 1) / 2 : Nat) : Int) < (l.length : Int) := by omega
    have c5 : (a - 1) / 2 < l.length := by omega
    simp only [e1, e2, Int.toNat_natCast, List.length_set, decide_eq_true c0, decide_eq_true c1, decide_eq_true c2, decide_eq_true c3, decide_eq_true c4, decide_eq_true c5, decide_eq_true ha, cond_true]
    refine OkL.bind (okKeyLess _ _) fun x0 hx => ?_
    subst hx
    refine OkL.cond (fun h => ?_) fun h => ?_
    · have h : lessE (l.getD a dE) (l.getD ((a - 1) / 2) dE) = false := nt h
      exact OkL.some ⟨up_end hh (.inr h), List.Perm.refl _⟩
    · have h : lessE (l.getD a dE) (l.getD ((a - 1) / 2) dE) = true := nf h
      refine OkL.imp (ih ((a - 1) / 2) (by omega) (swp dE l a ((a - 1) / 2)) (by rw [swp_len]; exact c5) (by rw [swp_len]; exact hl) (up_step TotE hh (by omega) ha h)) fun b hb => ⟨hb.1, hb.2.trans (swp_perm _ _ _ _ ha c5)⟩

theorem pushOkK (x : Ev7) (l : List Ev7) (hl : l.length < 1100000) (hh : Heap lessE dE l) : Ok (fun k => impl_heap_impl_eventKey_push_h0 k x l) (fun b => Heap lessE dE b.2.1.1 ∧ b.2.1.1.Perm (l ++ [x])) := by
  refine Ok.step (fun k => impl_heap_impl_eventKey_push_h0_eq k x l) (Ok.chk (by simp only [List.length_singleton]; omega) ?_)
  have e : IntKind.i64.wrap (((l ++ [x]).length : Int) - 1) = (l.length : Int) := by rw [w64 (by simp <;> omega) (by simp <;> omega)]; simp
  have := (pushLoopK l.length (l ++ [x]) (by simp) (by simp <;> omega) (push_up hh x)).ok
  rw [← e] at this
  exact this

theorem popLoopK (d0 y3 : Ev7) (m : Nat) : ∀ (a : Nat) (l : List Ev7), l.length - a = m → l.length ≤ 1100000 → a < l.length ∨ a = 0 → HeapDn lessE dE l a →
    OkL (fun k j => impl_heap_impl_eventKey_pop_h0_6 k j (l.length : Int) (a : Int) d0 y3 l) (fun b => b.1 = y3 ∧ Heap lessE dE b.2.1.1 ∧ b.2.1.1.Perm l) := by
  induction m using Nat.strongRecOn with
  | _ m ih =>
    intro a l hm hl ha0 hh
    refine OkL.step (fun k j => impl_heap_impl_eventKey_pop_h0_6_eq k j (l.length : Int) (a : Int) d0 y3 l) ?_
    have e1 : IntKind.i64.wrap (2 * (a : Int)) = ((2 * a : Nat) : Int) := by rw [w64 (by omega) (by omega)]; omega
    have e2 : IntKind.i64.wrap (((2 * a : Nat) : Int) + 1) = ((2 * a + 1 : Nat) : Int) := w64n _ (by omega)
    have e3 : IntKind.i64.wrap (((2 * a + 1 : Nat) : Int) + 1) = ((2 * a + 2 : Nat) : Int) := w64n _ (by omega)
    simp only [e1, e2, e3]
    refine OkL.cond (fun h => ?_) fun h => ?_
    · have h : ((2 * a + 1 : Nat) : Int) ≥ (l.length : Int) := of_decide_eq_true h
      have hp : Heap lessE dE l := dn_end hh fun i i0 i1 hp => by omega
      exact OkL.some ⟨rfl, hp, List.Perm.refl _⟩
    have h : ¬ ((2 * a + 1 : Nat) : Int) ≥ (l.length : Int) := of_decide_eq_false h
    have ha : a < l.length := by omega
    have c1 : (0 : Int) ≤ ((2 * a + 1 : Nat) : Int) := by omega
    have c2 : ((2 * a + 1 : Nat) : Int) < (l.length : Int) := by omega
    have c3 : 2 * a + 1 < l.length := by omega
    have c4 : (0 : Int) ≤ (a : Int) := by omega
    have c5 : (a : Int) < (l.length : Int) := by omega
    have c6 : (0 : Int) ≤ ((2 * a + 2 : Nat) : Int) := by omega
    simp only [Int.toNat_natCast, List.length_set, decide_eq_true c1, decide_eq_true c2, decide_eq_true c3, decide_eq_true c4, decide_eq_true c5, decide_eq_true c6, decide_eq_true ha, cond_true]
    have fin : ∀ c, c = 2 * a + 1 ∨ c = 2 * a + 2 → c < l.length → (∀ i, 0 < i → i < l.length → (i - 1) / 2 = a → le lessE (l.getD c dE) (l.getD i dE)) →
        OkL (fun k j => (impl_keyLess k (l.getD c dE) (l.getD a dE)).bind fun x1 => _root_.cond (!x1) (some ((y3, (l, (), ()), ()))) (impl_heap_impl_eventKey_pop_h0_6 k j (l.length : Int) (c : Int) d0 y3 (swp dE l a c))) (fun b => b.1 = y3 ∧ Heap lessE dE b.2.1.1 ∧ b.2.1.1.Perm l) := by
      intro c hc hcl hmin
      refine OkL.bind (okKeyLess _ _) fun x hx => ?_
      subst hx
      refine OkL.cond (fun h => ?_) fun h => ?_
      · have h : lessE (l.getD c dE) (l.getD a dE) = false := nt h
        exact OkL.some ⟨rfl, dn_end hh fun i i0 i1 hp => le_tr TotE h (hmin i i0 i1 hp), List.Perm.refl _⟩
      · have h : lessE (l.getD c dE) (l.getD a dE) = true := nf h
        have hd := dn_step TotE hh (by omega) hcl (by omega) hmin h
        rw [swp_comm dE l c a (by omega)] at hd
        have := ih (l.length - c) (by omega) c (swp dE l a c) (by rw [swp_len]) (by rw [swp_len]; exact hl) (.inl (by rw [swp_len]; exact hcl)) hd
        rw [swp_len] at this
        exact this.imp fun b hb => ⟨hb.1, hb.2.1, hb.2.2.trans (swp_perm _ _ _ _ ha hcl)⟩
    refine OkL.cond (fun h2 => ?_) fun h2 => ?_
    · have h2 : ((2 * a + 2 : Nat) : Int) < (l.length : Int) := of_decide_eq_true h2
      have c7 : 2 * a + 2 < l.length := by omega
      simp only [decide_eq_true h2, decide_eq_true c7, cond_true]
      refine OkL.bind (okKeyLess _ _) fun x hx => ?_
      subst hx
      refine OkL.cond (fun h3 => ?_) fun h3 => ?_
      · have h3 : lessE (l.getD (2 * a + 2) dE) (l.getD (2 * a + 1) dE) = true := h3
        exact fin (2 * a + 2) (.inr rfl) c7 fun i i0 i1 hp => by
          rcases (by omega : i = 2 * a + 1 ∨ i = 2 * a + 2) with rfl | rfl
          · exact le_of TotE h3
          · exact le_rf TotE _
      · have h3 : lessE (l.getD (2 * a + 2) dE) (l.getD (2 * a + 1) dE) = false := h3
        exact fin (2 * a + 1) (.inl rfl) c3 fun i i0 i1 hp => by
          rcases (by omega : i = 2 * a + 1 ∨ i = 2 * a + 2) with rfl | rfl
          · exact le_rf TotE _
          · exact h3
    · have h2 : ¬ ((2 * a + 2 : Nat) : Int) < (l.length : Int) := of_decide_eq_false h2
      exact fin (2 * a + 1) (.inl rfl) c3 fun i i0 i1 hp => by
        rcases (by omega : i = 2 * a + 1 ∨ i = 2 * a + 2) with rfl | rfl
        · exact le_rf TotE _
        · omega

theorem popOkK (l : List Ev7) (h0 : 0 < l.length) (hl : l.length ≤ 1100000) (hh : Heap lessE dE l) : Ok (fun k => impl_heap_impl_eventKey_pop_h0 k l) (fun b => b.1 = l.getD 0 dE ∧ Heap lessE dE b.2.1.1 ∧ b.2.1.1.Perm (rst dE l)) := by
  refine Ok.step (fun k => impl_heap_impl_eventKey_pop_h0_eq k l) ?_
  have e1 : IntKind.i64.wrap ((l.length : Int) - 1) = ((l.length - 1 : Nat) : Int) := by rw [w64 (by omega) (by omega)]; omega
  have e0 : Int.toNat 0 = 0 := rfl
  have c1 : (0 : Int) < (l.length : Int) := by omega
  have c2 : (0 : Int) ≤ ((l.length - 1 : Nat) : Int) := by omega
  have c3 : ((l.length - 1 : Nat) : Int) < (l.length : Int) := by omega
  have c4 : l.length - 1 < l.length := by omega
  have c5 : ((l.length - 1 : Nat) : Int) ≤ (l.length : Int) := by omega
  simp only [e1, e0, Int.toNat_natCast, List.length_set, decide_eq_true h0, decide_eq_true c1, decide_eq_true c2, decide_eq_true c3, decide_eq_true c4, decide_eq_true c5, cond_true]
  have := (popLoopK (0, 0, 0, 0, 0, 0, 0) (l.getD 0 dE) _ 0 (rst dE l) rfl (by rw [rst_len]; omega) (.inr rfl) (rst_dn hh)).ok
  rw [rst_len] at this
  exact this

theorem drainLoopK (n : Nat) : ∀ (out l : List Ev7), l.length = n → out.length + n ≤ 1100000 → Heap lessE dE l →
    OkL (fun k j => impl_heap_impl_eventKey_drain_h0_2 k j out l) (fun b => ∃ s, b.1 = out ++ s ∧ s.Perm l ∧ s.Pairwise (le lessE)) := by
  induction n with
  | zero =>
    intro out l hn hl hh
    refine OkL.step (fun k j => impl_heap_impl_eventKey_drain_h0_2_eq k j out l) ?_
    have : l = [] := List.eq_nil_of_length_eq_zero hn
    subst this
    exact OkL.cond (fun h => by simp at h) fun _ => OkL.some ⟨[], by simp, List.Perm.refl _, List.Pairwise.nil⟩
  | succ n ih =>
    intro out l hn hl hh
    refine OkL.step (fun k j => impl_heap_impl_eventKey_drain_h0_2_eq k j out l) (OkL.cond (fun _ => ?_) fun h => absurd (of_decide_eq_false h) (by omega))
    refine OkL.bind (popOkK l (by omega) (by omega) hh) fun b hb => ?_
    obtain ⟨p, ⟨l', u1, u2⟩, u3⟩ := b
    obtain ⟨rfl, h2, h3⟩ := hb
    have h2 : Heap lessE dE l' := h2
    have h3 : l'.Perm (rst dE l) := h3
    have hlen : l'.length = n := by rw [h3.length_eq, rst_len]; omega
    refine OkL.chk (by simp only [List.length_singleton]; omega) ?_
    refine OkL.imp (ih (out ++ [l.getD 0 dE]) l' hlen (by simp <;> omega) h2) fun b hb => ?_
    obtain ⟨s, hs, hp, hpw⟩ := hb
    refine ⟨l.getD 0 dE :: s, by rw [hs]; simp, (List.Perm.cons _ (hp.trans h3)).trans (rst_perm dE l (by omega)), List.pairwise_cons.2 ⟨fun y hy => ?_, hpw⟩⟩
    have hy' : y ∈ l := (rst_perm dE l (by omega)).mem_iff.1 (List.mem_cons_of_mem _ ((hp.trans h3).mem_iff.1 hy))
    obtain ⟨i, hi, rfl⟩ := List.getElem_of_mem hy'
    rw [← gD l dE i hi]
    exact root_least TotE hh i hi

/-! ### the reference's EventSort -/
def Srt (s : List Ev7) : Prop := s.Pairwise (fun x y => lessE x y = true)

theorem strict_eq : ∀ {a b : List Ev7}, Srt a → Srt b → (∀ y, y ∈ a ↔ y ∈ b) → a = b
  | [], [], _, _, _ => rfl
  | [], y :: b, _, _, h => by have := (h y).2 List.mem_cons_self; cases this
  | x :: a, [], _, _, h => by have := (h x).1 List.mem_cons_self; cases this
  | x :: a, y :: b, ha, hb, h => by
    obtain ⟨ha1, ha2⟩ := List.pairwise_cons.1 ha
    obtain ⟨hb1, hb2⟩ := List.pairwise_cons.1 hb
    have hxy : x = y := by
      rcases List.mem_cons.1 ((h x).1 List.mem_cons_self) with e | hx
      · exact e
      rcases List.mem_cons.1 ((h y).2 List.mem_cons_self) with e | hy
      · exact e.symm
      have h1 := ha1 y hy
      have h2 := TotE.asym _ _ (hb1 x hx)
      rw [h1] at h2; cases h2
    subst hxy
    have irr : ∀ z, lessE x z = true → z ≠ x := by
      intro z hz e
      subst e
      have := TotE.asym _ _ hz
      rw [hz] at this; cases this
    rw [strict_eq ha2 hb2 fun z => ⟨fun hz => ?_, fun hz => ?_⟩]
    · rcases List.mem_cons.1 ((h z).1 (List.mem_cons_of_mem _ hz)) with e | h'
      · exact absurd e (irr z (ha1 z hz))
      · exact h'
    · rcases List.mem_cons.1 ((h z).2 (List.mem_cons_of_mem _ hz)) with e | h'
      · exact absurd e (irr z (hb1 z hz))
      · exact h'

theorem setAtL {α : Type} (a : List α) (x y : α) (b : List α) : (a ++ x :: b).set a.length y = a ++ y :: b := by
  induction a with
  | nil => rfl
  | cons z a ih => simp [ih]

theorem setMid {α : Type} (s : List α) (n : Nat) (hn : n ≤ s.length) (c v : α) : (s.take n ++ c :: s.drop n).set n v = s.take n ++ v :: s.drop n := by
  have := setAtL (s.take n) c v (s.drop n)
  rw [List.length_take, Nat.min_eq_left hn] at this
  exact this

theorem getMid {α : Type} (s : List α) (n i : Nat) (hi : i < n) (hn : n ≤ s.length) (c d : α) : (s.take n ++ c :: s.drop n).getD i d = s.getD i d := by
  rw [List.getD_eq_getElem?_getD, List.getD_eq_getElem?_getD, List.getElem?_append_left (by rw [List.length_take]; omega), List.getElem?_take, if_pos hi]

theorem midStep {α : Type} (s : List α) (n : Nat) (hn : n < s.length) (d : α) : s.take (n + 1) ++ s.getD n d :: s.drop (n + 1) = s.take n ++ s.getD n d :: s.drop n := by
  rw [getD_drop s d n hn, List.take_succ_eq_append_getElem hn, List.append_assoc, gD s d n hn]
  rfl

theorem esShiftC (a : List Ev7) (i : Nat) (hi : i < a.length) (ha : a.length ≤ 1048576) (s : List Ev7) (hs : s.length ≤ 1048576) (m : Nat) {Q : List Ev7 → Prop}
    (hnext : OkL (fun k j0 => spec_EventSort_3 k j0 a ((i + 1 : Nat) : Int) (insM lessE (a.getD i dE) s m)) Q) (t : Nat) : ∀ c : Ev7, m + t ≤ s.length →
    Ok3 (fun k j0 j => spec_EventSort_11 k j0 j a (i : Int) (m : Int) ((m + t : Nat) : Int) (s.take (m + t) ++ c :: s.drop (m + t))) Q := by
  have c1 : (0 : Int) ≤ (i : Int) := by omega
  have c2 : (i : Int) < (a.length : Int) := by omega
  induction t with
  | zero =>
    intro c ht
    have hl : (s.take (m + 0) ++ c :: s.drop (m + 0)).length = s.length + 1 := by rw [List.length_append, List.length_cons, List.length_take, List.length_drop]; omega
    refine Ok3.step (fun k j0 j => spec_EventSort_11_eq k j0 j a (i : Int) (m : Int) ((m + 0 : Nat) : Int) _) (Ok3.cond (fun h => absurd (of_decide_eq_true h) (by omega)) fun _ => ?_)
    refine Ok3.chk c1 (Ok3.chk c2 (Ok3.chk (by omega) (Ok3.chk (by rw [hl]; omega) (Ok3.chk (by rw [Int.toNat_natCast, hl]; omega) ?_))))
    rw [w64n i (by omega), Int.toNat_natCast, Int.toNat_natCast]
    have e := setMid s m (by omega) c (a.getD i dE)
    refine Ok3.out ?_
    have e2 : insM lessE (a.getD i dE) s m = s.take m ++ a.getD i dE :: s.drop m := by unfold insM; rw [List.append_assoc]; rfl
    rw [e2, ← e] at hnext
    exact hnext
  | succ t ih =>
    intro c ht
    have hl : (s.take (m + (t + 1)) ++ c :: s.drop (m + (t + 1))).length = s.length + 1 := by rw [List.length_append, List.length_cons, List.length_take, List.length_drop]; omega
    have e1 : IntKind.i64.wrap (((m + (t + 1) : Nat) : Int) - 1) = ((m + t : Nat) : Int) := by rw [w64 (by omega) (by omega)]; omega
    refine Ok3.step (fun k j0 j => spec_EventSort_11_eq k j0 j a (i : Int) (m : Int) ((m + (t + 1) : Nat) : Int) _) (Ok3.cond (fun _ => ?_) fun h => absurd (of_decide_eq_false h) (by omega))
    simp only [e1]
    refine Ok3.chk (by omega) (Ok3.chk (by rw [hl]; omega) (Ok3.chk (by rw [Int.toNat_natCast, hl]; omega) (Ok3.chk (by omega) (Ok3.chk (by rw [hl]; omega) (Ok3.chk (by rw [Int.toNat_natCast, hl]; omega) ?_)))))
    rw [Int.toNat_natCast, Int.toNat_natCast]
    have h := ih (s.getD (m + t) dE) (by omega)
    have e2 := getMid s (m + (t + 1)) (m + t) (by omega) (by omega) c dE
    have e3 := setMid s (m + (t + 1)) (by omega) c (s.getD (m + t) dE)
    have e4 := midStep s (m + t) (by omega) dE
    have e5 : (s.take (m + (t + 1)) ++ c :: s.drop (m + (t + 1))).set (m + (t + 1)) ((s.take (m + (t + 1)) ++ c :: s.drop (m + (t + 1))).getD (m + t) dE) = s.take (m + t) ++ s.getD (m + t) dE :: s.drop (m + t) := by
      rw [e2, e3]; exact e4
    rw [← e5] at h
    exact h

theorem insStrict {x : Ev7} {l : List Ev7} {k : Nat} (hs : Srt l) (h1 : ∀ y ∈ l.take k, lessE y x = true) (h2 : ∀ y ∈ l.drop k, lessE x y = true) : Srt (insM lessE x l k) := by
  unfold insM Srt
  have hs2 : (l.take k ++ l.drop k).Pairwise (fun x y => lessE x y = true) := by rw [List.take_append_drop]; exact hs
  rw [List.pairwise_append] at hs2
  obtain ⟨p1, p2, p3⟩ := hs2
  rw [List.append_assoc, List.pairwise_append]
  refine ⟨p1, List.pairwise_cons.2 ⟨h2, p2⟩, fun a ha b hb => ?_⟩
  rcases List.mem_cons.1 hb with rfl | hb
  · exact h1 a ha
  · exact p3 a ha b hb

theorem ev_eq {p q : Ev7} (h : (p.1 == q.1 && (p.2.1 == q.2.1 && (p.2.2.1 == q.2.2.1 && (p.2.2.2.1 == q.2.2.2.1 && (p.2.2.2.2.1 == q.2.2.2.2.1 && (p.2.2.2.2.2.1 == q.2.2.2.2.2.1 && (p.2.2.2.2.2.2 == q.2.2.2.2.2.2 && true))))))) = true) : p = q := by
  simp only [Bool.and_eq_true, beq_iff_eq, and_true] at h
  obtain ⟨h1, h2, h3, h4, h5, h6, h7⟩ := h
  exact Prod.ext h1 (Prod.ext h2 (Prod.ext h3 (Prod.ext h4 (Prod.ext h5 (Prod.ext h6 h7)))))

theorem esInsC (a : List Ev7) (i : Nat) (hi : i < a.length) (ha : a.length ≤ 1048576) (s : List Ev7) (hs : s.length < 1048576) (hsr : Srt s) {Q : List Ev7 → Prop}
    (hskip : a.getD i dE ∈ s → OkL (fun k j0 => spec_EventSort_3 k j0 a ((i + 1 : Nat) : Int) s) Q)
    (hnew : ∀ m, Srt (insM lessE (a.getD i dE) s m) → OkL (fun k j0 => spec_EventSort_3 k j0 a ((i + 1 : Nat) : Int) (insM lessE (a.getD i dE) s m)) Q) :
    ∀ m, m ≤ s.length → (∀ y ∈ s.drop m, lessE (a.getD i dE) y = true) → Ok3 (fun k j0 j => spec_EventSort_6 k j0 j a (i : Int) (m : Int) s) Q := by
  have c1 : (0 : Int) ≤ (i : Int) := by omega
  have c2 : (i : Int) < (a.length : Int) := by omega
  have fin : ∀ m, m ≤ s.length → Srt (insM lessE (a.getD i dE) s m) → Ok3 (fun k j0 j => cond (decide ((s.length + [a.getD i dE].length) * 56 ≤ 140737488351232)) (spec_EventSort_11 k j0 k a (i : Int) (m : Int) (IntKind.i64.wrap (((s ++ [a.getD i dE]).length : Int) - 1)) (s ++ [a.getD i dE])) none) Q := by
    intro m hm hsm
    refine Ok3.chk (by simp only [List.length_singleton]; omega) (Ok3.out ?_)
    have e : IntKind.i64.wrap (((s ++ [a.getD i dE]).length : Int) - 1) = ((m + (s.length - m) : Nat) : Int) := by
      rw [List.length_append, List.length_singleton, w64 (by omega) (by omega)]; omega
    rw [e]
    have h := esShiftC a i hi ha s (by omega) m (hnew m hsm) (s.length - m) (a.getD i dE) (by omega)
    have e2 : m + (s.length - m) = s.length := by omega
    rw [e2] at h ⊢
    rw [List.take_length, List.drop_length] at h
    exact Ok3.inn (L := fun k j0 j => spec_EventSort_11 k j0 j a (i : Int) (m : Int) (s.length : Int) (s ++ [a.getD i dE])) h
  intro m
  induction m with
  | zero =>
    intro hm hd
    refine Ok3.step (fun k j0 j => spec_EventSort_6_eq k j0 j a (i : Int) ((0 : Nat) : Int) s) (Ok3.cond (fun h => by simp at h) fun _ => Ok3.cond (fun h => by simp at h) fun _ => ?_)
    refine Ok3.chk c1 (Ok3.chk c2 ?_)
    simp only [Int.toNat_natCast]
    exact fin 0 hm (insStrict hsr (by simp) hd)
  | succ m ih =>
    intro hm hd
    have e1 : IntKind.i64.wrap (((m + 1 : Nat) : Int) - 1) = (m : Int) := by rw [w64 (by omega) (by omega)]; omega
    have c0 : ((m + 1 : Nat) : Int) > 0 := by omega
    have c3 : (m : Int) < (s.length : Int) := by omega
    have c4 : m < s.length := by omega
    have c5 : (0 : Int) ≤ (m : Int) := by omega
    refine Ok3.step (fun k j0 j => spec_EventSort_6_eq k j0 j a (i : Int) ((m + 1 : Nat) : Int) s) (Ok3.cond (fun _ => ?_) fun h => absurd c0 (of_decide_eq_false h))
    simp only [e1, Int.toNat_natCast, decide_eq_true c0, decide_eq_true c1, decide_eq_true c2, decide_eq_true c3, decide_eq_true c4, decide_eq_true c5, cond_true]
    refine Ok3.bind (okSpecLessE _ _) fun x hx => ?_
    subst hx
    refine Ok3.cond (fun h => ?_) fun h => Ok3.cond (fun he => ?_) fun he => ?_
    · have h : lessE (a.getD i dE) (s.getD m dE) = true := h
      refine ih (by omega) fun y hy => ?_
      rw [getD_drop s dE m c4] at hy
      rcases List.mem_cons.1 hy with rfl | hy
      · exact h
      · exact hd y hy
    · have he : s.getD m dE = a.getD i dE := ev_eq he
      rw [w64n i (by omega)]
      refine Ok3.out (hskip ?_)
      rw [← he, gD s dE m c4]
      exact List.getElem_mem c4
    · have h : lessE (a.getD i dE) (s.getD m dE) = false := h
      have hne : s.getD m dE ≠ a.getD i dE := by
        intro e
        have : ∀ p q : Ev7, p = q → (p.1 == q.1 && (p.2.1 == q.2.1 && (p.2.2.1 == q.2.2.1 && (p.2.2.2.1 == q.2.2.2.1 && (p.2.2.2.2.1 == q.2.2.2.2.1 && (p.2.2.2.2.2.1 == q.2.2.2.2.2.1 && (p.2.2.2.2.2.2 == q.2.2.2.2.2.2 && true))))))) = true := by
          intro p q e; subst e; simp
        have h9 := this _ _ e
        rw [h9] at he; cases he
      have hlt : lessE (s.getD m dE) (a.getD i dE) = true := by
        cases h9 : lessE (s.getD m dE) (a.getD i dE) with
        | true => rfl
        | false => exact absurd (TotE.tot _ _ h9 h) hne
      refine fin (m + 1) hm (insStrict hsr (fun y hy => ?_) hd)
      obtain ⟨n, hn, rfl⟩ := List.getElem_of_mem hy
      rw [List.length_take] at hn
      rw [List.getElem_take]
      by_cases hnm : n = m
      · subst hnm; rw [← gD s dE n c4]; exact hlt
      · have := List.pairwise_iff_getElem.1 hsr n m (by omega) c4 (by omega)
        rw [← gD s dE m c4] at this
        exact TotE.trans _ _ _ this hlt

theorem esLoopC (a : List Ev7) (ha : a.length ≤ 1048576) (n : Nat) : ∀ (i : Nat) (s : List Ev7), a.length - i = n → i ≤ a.length → s.length ≤ i → Srt s → (∀ y, y ∈ s ↔ y ∈ a.take i) →
    OkL (fun k j => spec_EventSort_3 k j a (i : Int) s) (fun b => Srt b ∧ (∀ y, y ∈ b ↔ y ∈ a) ∧ b.length ≤ a.length) := by
  induction n with
  | zero =>
    intro i s hn hi hs hsr hm
    refine OkL.step (fun k j => spec_EventSort_3_eq k j a (i : Int) s) (OkL.cond (fun hc => absurd (of_decide_eq_true hc) (by omega)) fun _ => OkL.some ⟨hsr, fun y => ?_, by omega⟩)
    rw [hm y, List.take_of_length_le (by omega)]
  | succ n ih =>
    intro i s hn hi hs hsr hm
    have c1 : (i : Int) < (a.length : Int) := by omega
    have hi2 : i < a.length := by omega
    have htk : ∀ y, y ∈ a.take (i + 1) ↔ y ∈ a.take i ∨ y = a.getD i dE := by
      intro y
      rw [List.take_succ_eq_append_getElem hi2, List.mem_append, List.mem_singleton, gD a dE i hi2]
    refine OkL.step (fun k j => spec_EventSort_3_eq k j a (i : Int) s) (OkL.cond (fun _ => ?_) fun hc => absurd c1 (of_decide_eq_false hc))
    refine Ok3.inn (L := fun k j0 j => spec_EventSort_6 k j0 j a (i : Int) (s.length : Int) s) (esInsC a i hi2 ha s (by omega) hsr (fun hx => ih (i + 1) s (by omega) (by omega) (by omega) hsr fun y => ?_) (fun m hsm => ih (i + 1) _ (by omega) (by omega) ?_ hsm fun y => ?_) s.length (Nat.le_refl _) (by simp))
    · rw [htk y, hm y]
      refine ⟨.inl, fun h => ?_⟩
      rcases h with h | rfl
      · exact h
      · exact (hm _).1 hx
    · rw [(ins_perm lessE (a.getD i dE) s m).length_eq]; simp; omega
    · rw [(ins_perm lessE (a.getD i dE) s m).mem_iff, List.mem_append, List.mem_singleton, htk y, hm y]

theorem specEventSort (a : List Ev7) (ha : a.length ≤ 1048576) : Ok (fun k => spec_EventSort k a) (fun b => Srt b ∧ (∀ y, y ∈ b ↔ y ∈ a) ∧ b.length ≤ a.length) :=
  Ok.step (fun k => spec_EventSort_eq k a) (esLoopC a ha _ 0 [] rfl (by omega) (by simp) List.Pairwise.nil (by simp)).ok
end Go.Proofs.YtjhldhlmckbapaaGreat.SFnExactHubOuts
