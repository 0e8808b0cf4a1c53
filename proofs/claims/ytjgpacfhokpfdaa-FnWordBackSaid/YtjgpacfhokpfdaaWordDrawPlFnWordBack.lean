/- The reference draws words: it answers, with short rows. -/
import Derived.Test.YtjgpacfhokpfdaaDrawOutPlFnWordBack
import Derived.Test.YtjgpacfhokpfdaaSortPlFnWordBack
import Derived.Test.YtjgpacfhokpfdaaWordPlFnWordBack
set_option linter.unusedVariables false
set_option linter.unusedSimpArgs false
namespace Go.Proofs.Ytjgpacfhokpfdaa.SFnWordBack
open Go Go.Sx Go.Pl
abbrev dE : Ev7 := dflt t_impl_Event

theorem okSpecLessE (x y : Ev7) : Ok (fun k => spec_EventLess k x y) (fun b => b = lessE x y) := ⟨_, Ev.of 1 fun m => specEventLess m x y, rfl⟩

theorem esShift (a : List Ev7) (i : Nat) (hi : i < a.length) (ha : a.length ≤ 1000) (m L : Nat) (hL : L ≤ 1000) {Q : List Ev7 → Prop}
    (hnext : ∀ x' : List Ev7, x'.length = L → OkL (fun k j0 => spec_EventSort_3 k j0 a ((i + 1 : Nat) : Int) x') Q) (n : Nat) : ∀ x : List Ev7, x.length = L → m + n < L →
    Ok3 (fun k j0 j => spec_EventSort_11 k j0 j a (i : Int) (m : Int) ((m + n : Nat) : Int) x) Q := by
  have c1 : (0 : Int) ≤ (i : Int) := by omega
  have c2 : (i : Int) < (a.length : Int) := by omega
  induction n with
  | zero =>
    intro x hx hn
    refine Ok3.step (fun k j0 j => spec_EventSort_11_eq k j0 j a (i : Int) (m : Int) ((m + 0 : Nat) : Int) x) (Ok3.cond (fun h => absurd (of_decide_eq_true h) (by omega)) fun _ => ?_)
    refine Ok3.chk c1 (Ok3.chk c2 (Ok3.chk (by omega) (Ok3.chk (by omega) (Ok3.chk (by rw [Int.toNat_natCast]; omega) ?_))))
    rw [w64n i (by omega)]
    exact Ok3.out (hnext _ (by rw [List.length_set]; exact hx))
  | succ n ih =>
    intro x hx hn
    have e1 : IntKind.i64.wrap (((m + (n + 1) : Nat) : Int) - 1) = ((m + n : Nat) : Int) := by rw [w64 (by omega) (by omega)]; omega
    refine Ok3.step (fun k j0 j => spec_EventSort_11_eq k j0 j a (i : Int) (m : Int) ((m + (n + 1) : Nat) : Int) x) (Ok3.cond (fun _ => ?_) fun h => absurd (of_decide_eq_false h) (by omega))
    simp only [e1]
    refine Ok3.chk (by omega) (Ok3.chk (by omega) (Ok3.chk (by rw [Int.toNat_natCast]; omega) (Ok3.chk (by omega) (Ok3.chk (by omega) (Ok3.chk (by rw [Int.toNat_natCast]; omega) ?_)))))
    exact ih _ (by rw [List.length_set]; exact hx) (by omega)

theorem esIns (a : List Ev7) (i : Nat) (hi : i < a.length) (ha : a.length ≤ 1000) (s : List Ev7) (hs : s.length < 1000) {Q : List Ev7 → Prop} (hskip : OkL (fun k j0 => spec_EventSort_3 k j0 a ((i + 1 : Nat) : Int) s) Q)
    (hnext : ∀ x' : List Ev7, x'.length = s.length + 1 → OkL (fun k j0 => spec_EventSort_3 k j0 a ((i + 1 : Nat) : Int) x') Q) :
    ∀ m, m ≤ s.length → Ok3 (fun k j0 j => spec_EventSort_6 k j0 j a (i : Int) (m : Int) s) Q := by
  have c1 : (0 : Int) ≤ (i : Int) := by omega
  have c2 : (i : Int) < (a.length : Int) := by omega
  have fin : ∀ m, m ≤ s.length → Ok3 (fun k j0 j => cond (decide ((s.length + [a.getD i dE].length) * 56 ≤ 140737488351232)) (spec_EventSort_11 k j0 k a (i : Int) (m : Int) (IntKind.i64.wrap (((s ++ [a.getD i dE]).length : Int) - 1)) (s ++ [a.getD i dE])) none) Q := by
    intro m hm
    refine Ok3.chk (by simp only [List.length_singleton]; omega) (Ok3.out ?_)
    have e : IntKind.i64.wrap (((s ++ [a.getD i dE]).length : Int) - 1) = ((m + (s.length - m) : Nat) : Int) := by
      rw [List.length_append, List.length_singleton, w64 (by omega) (by omega)]; omega
    rw [e]
    exact Ok3.inn (L := fun k j0 j => spec_EventSort_11 k j0 j a (i : Int) (m : Int) ((m + (s.length - m) : Nat) : Int) (s ++ [a.getD i dE])) (esShift a i hi ha m (s.length + 1) (by omega) hnext (s.length - m) _ (by simp) (by omega))
  intro m
  induction m with
  | zero =>
    intro hm
    refine Ok3.step (fun k j0 j => spec_EventSort_6_eq k j0 j a (i : Int) ((0 : Nat) : Int) s) (Ok3.cond (fun h => by simp at h) fun _ => Ok3.cond (fun h => by simp at h) fun _ => ?_)
    refine Ok3.chk c1 (Ok3.chk c2 ?_)
    simp only [Int.toNat_natCast]
    exact fin 0 hm
  | succ m ih =>
    intro hm
    have e1 : IntKind.i64.wrap (((m + 1 : Nat) : Int) - 1) = (m : Int) := by rw [w64 (by omega) (by omega)]; omega
    have c0 : ((m + 1 : Nat) : Int) > 0 := by omega
    have c3 : (m : Int) < (s.length : Int) := by omega
    have c4 : m < s.length := by omega
    have c5 : (0 : Int) ≤ (m : Int) := by omega
    refine Ok3.step (fun k j0 j => spec_EventSort_6_eq k j0 j a (i : Int) ((m + 1 : Nat) : Int) s) (Ok3.cond (fun _ => ?_) fun h => absurd c0 (of_decide_eq_false h))
    simp only [e1, Int.toNat_natCast, decide_eq_true c0, decide_eq_true c1, decide_eq_true c2, decide_eq_true c3, decide_eq_true c4, decide_eq_true c5, cond_true]
    refine Ok3.bind (okSpecLessE _ _) fun x hx => Ok3.cond (fun _ => ih (by omega)) fun _ => Ok3.cond (fun _ => ?_) fun _ => ?_
    · rw [w64n i (by omega)]
      exact Ok3.out hskip
    · exact fin (m + 1) hm

theorem esLoop (a : List Ev7) (ha : a.length ≤ 1000) (n : Nat) : ∀ (i : Nat) (s : List Ev7), a.length - i = n → i ≤ a.length → s.length ≤ i → OkL (fun k j => spec_EventSort_3 k j a (i : Int) s) (fun b => b.length ≤ 1000) := by
  induction n with
  | zero =>
    intro i s hn hi hs
    exact OkL.step (fun k j => spec_EventSort_3_eq k j a (i : Int) s) (OkL.cond (fun hc => absurd (of_decide_eq_true hc) (by omega)) fun _ => OkL.some (by omega))
  | succ n ih =>
    intro i s hn hi hs
    have c1 : (i : Int) < (a.length : Int) := by omega
    refine OkL.step (fun k j => spec_EventSort_3_eq k j a (i : Int) s) (OkL.cond (fun _ => ?_) fun hc => absurd c1 (of_decide_eq_false hc))
    exact Ok3.inn (L := fun k j0 j => spec_EventSort_6 k j0 j a (i : Int) (s.length : Int) s) (esIns a i (by omega) ha s (by omega) (ih (i + 1) s (by omega) (by omega) (by omega)) (fun x' hx' => ih (i + 1) x' (by omega) (by omega) (by omega)) s.length (Nat.le_refl _))

theorem specEventSortLen (a : List Ev7) (ha : a.length ≤ 1000) : Ok (fun k => spec_EventSort k a) (fun b => b.length ≤ 1000) :=
  Ok.step (fun k => spec_EventSort_eq k a) (esLoop a ha _ 0 [] rfl (by omega) (by simp)).ok

theorem rdUp {r : List Int × Int} {i j : Nat} (h : RdOk r i) (hij : i ≤ j) : RdOk r j := ⟨h.1, h.2.1, h.2.2.1, by have := h.2.2.2; omega⟩

theorem eventsLoop (n : Nat) : ∀ (r : List Int × Int) (m : Nat) (out : List Ev7), RdOk r m → m + 12 * n < 10000000 → out.length + n ≤ 1000 →
    OkL (fun k j => spec_l72Events_h0_3 k j (n : Int) r out) (fun b => b.1.length ≤ 1000 ∧ RdOk (b.2.1.1, b.2.1.2.1) (m + 12 * n)) := by
  induction n with
  | zero =>
    intro r m out hr hm ho
    exact OkL.step (fun k j => spec_l72Events_h0_3_eq k j ((0 : Nat) : Int) r out) (OkL.cond (fun h => by simp at h) fun _ => OkL.some ⟨by show out.length ≤ 1000; omega, hr⟩)
  | succ n ih =>
    intro r m out hr hm ho
    have e : IntKind.i64.wrap (((n + 1 : Nat) : Int) - 1) = (n : Int) := by rw [w64 (by omega) (by omega)]; omega
    refine OkL.step (fun k j => spec_l72Events_h0_3_eq k j ((n + 1 : Nat) : Int) r out) (OkL.cond (fun _ => ?_) fun h => absurd (of_decide_eq_false h) (by omega))
    rw [e]
    refine OkL.bind (l72EventOk hr (by omega)) fun x hx => OkL.cond (fun hl => ?_) fun _ => ?_
    · have hl : (out.length : Int) > 0 := of_decide_eq_true hl
      refine OkL.bind (pickOk hx (by omega) (by omega)) fun y hy => OkL.cond (fun _ => ?_) fun _ => ?_
      · refine OkL.bind (pickOk hy.2.2 (by omega) (by omega)) fun z hz => ?_
        have hz1 : @LT.lt Int _ z.1 (out.length : Int) := hz.2.1 (by omega)
        have hz0 : @LE.le Int _ 0 z.1 := hz.1
        refine OkL.chk hz0 (OkL.chk hz1 (OkL.chk (by omega) ?_))
        refine OkL.bind (pickOk hz.2.2 (by omega) (by omega)) fun u hu => OkL.chk (by simp only [List.length_singleton]; omega) ?_
        exact (ih _ (m + 12) _ (rdUp hu.2.2 (by omega)) (by omega) (by simp <;> omega)).imp fun b hb => ⟨hb.1, rdUp hb.2 (by omega)⟩
      · refine OkL.chk (by simp only [List.length_singleton]; omega) ?_
        exact (ih _ (m + 12) _ (rdUp hy.2.2 (by omega)) (by omega) (by simp <;> omega)).imp fun b hb => ⟨hb.1, rdUp hb.2 (by omega)⟩
    · refine OkL.chk (by simp only [List.length_singleton]; omega) ?_
      exact (ih _ (m + 12) _ (rdUp hx (by omega)) (by omega) (by simp <;> omega)).imp fun b hb => ⟨hb.1, rdUp hb.2 (by omega)⟩

theorem l72EventsOk (most : Int) (hm1 : 1 ≤ most) (hmost : most ≤ 900) {r : List Int × Int} {m : Nat} (hr : RdOk r m) (hm : m < 100000) :
    Ok (fun k => spec_l72Events_h0 k most r) (fun b => b.1.length ≤ 1000 ∧ RdOk (b.2.1.1, b.2.1.2.1) (m + 20000)) := by
  refine Ok.step (fun k => spec_l72Events_h0_eq k most r) (Ok.bind (pickOk hr (by omega) (by omega)) fun x hx => ?_)
  have h1 := hx.2.1
  have h0 : @LE.le Int _ 0 x.1 := hx.1
  have hx0 := hx.2.2
  obtain ⟨n, hn⟩ : ∃ n : Nat, x.1 = (n : Int) := ⟨Int.toNat x.1, (Int.toNat_of_nonneg h0).symm⟩
  have h2 : @LT.lt Int _ x.1 most := h1 hm1
  have h4 : n < 900 := by rw [hn] at h2; omega
  rw [hn]
  exact Ok.imp (eventsLoop n _ (m + 1) [] hx0 (by omega) (by simp <;> omega)).ok fun b hb => ⟨hb.1, rdUp hb.2 (by omega)⟩

/-- A word whose rows are short. -/
def ShortW (x : Wo) : Prop := x.2.2.2.2.2.2.2.1.length ≤ 1000 ∧ x.2.2.2.2.2.2.2.2.1.length ≤ 1000 ∧ x.2.2.2.2.2.2.2.2.2.1.length ≤ 1000 ∧ x.2.2.2.2.2.2.2.2.2.2.length ≤ 1000

theorem l72WordOk {r : List Int × Int} {m : Nat} (hr : RdOk r m) (hm : m < 10000) :
    Ok (fun k => spec_l72Word_h0 k r) (fun b => ShortW b.1) := by
  have mx : Ok (fun k => spec_l22Max k) (fun _ => True) := ⟨_, Ev.of 1 fun m => spec_l22Max_eq m, trivial⟩
  refine Ok.step (fun k => spec_l72Word_h0_eq k r) ?_
  refine Ok.bind (pickOk hr (by omega) (by omega)) fun x0 h0 => ?_
  refine Ok.bind (pickOk h0.2.2 (by omega) (by omega)) fun x1 h1 => ?_
  refine Ok.bind (pickOk h1.2.2 (by omega) (by omega)) fun x2 h2 => ?_
  refine Ok.bind (pickOk h2.2.2 (by omega) (by omega)) fun x3 h3 => ?_
  refine Ok.bind (pickOk h3.2.2 (by omega) (by omega)) fun x4 h4 => ?_
  refine Ok.bind (pickOk h4.2.2 (by omega) (by omega)) fun x5 h5 => ?_
  refine Ok.bind (pickOk h5.2.2 (by omega) (by omega)) fun x6 h6 => ?_
  refine Ok.bind (pickOk h6.2.2 (by omega) (by omega)) fun x7 h7 => ?_
  have g := h7.2.2
  clear h0 h1 h2 h3 h4 h5 h6 h7
  refine Ok.cond (fun _ => ?_) fun _ => ?_
  · refine Ok.bind (pickOk g (by omega) (by omega)) fun x8 h8 => ?_
    have g := h8.2.2
    refine Ok.bind (pickOk g (by omega) (by omega)) fun x9 h9 => ?_
    have g := h9.2.2
    refine Ok.bind (pickOk g (by omega) (by omega)) fun x10 h10 => ?_
    have g := h10.2.2
    refine Ok.cond (fun _ => Ok.bind (pickOk g (by omega) (by omega)) fun y hy => Ok.chk hy.1 (Ok.chk (hy.2.1 (by omega)) (Ok.chk (by have h1 := hy.1; have h2 := hy.2.1 (by omega); simp; omega) (Ok.some (by simp [ShortW]))))) fun _ => ?_
    refine Ok.cond (fun _ => Ok.bind (pickOk g (by omega) (by omega)) fun y hy => Ok.chk hy.1 (Ok.chk (hy.2.1 (by omega)) (Ok.chk (by have h1 := hy.1; have h2 := hy.2.1 (by omega); simp; omega) (Ok.some (by simp [ShortW]))))) fun _ => ?_
    refine Ok.cond (fun _ => Ok.bind (pickOk g (by omega) (by omega)) fun y hy => Ok.chk hy.1 (Ok.chk (hy.2.1 (by omega)) (Ok.chk (by have h1 := hy.1; have h2 := hy.2.1 (by omega); simp; omega) (Ok.some (by simp [ShortW]))))) fun _ => ?_
    refine Ok.cond (fun _ => Ok.some (by simp [ShortW])) fun _ => ?_
    exact Ok.cond (fun _ => Ok.bind mx fun _ _ => Ok.bind mx fun _ _ => Ok.bind (pickOk g (by omega) (by omega)) fun y hy => Ok.chk hy.1 (Ok.chk (hy.2.1 (by omega)) (Ok.chk (by have h1 := hy.1; have h2 := hy.2.1 (by omega); simp; omega) (Ok.some (by simp [ShortW]))))) fun _ => Ok.some (by simp [ShortW])
  refine Ok.cond (fun _ => ?_) fun _ => ?_
  · refine Ok.bind (l72EventsOk 4 (by omega) (by omega) g (by omega)) fun x17 h17 => ?_
    refine Ok.bind (specEventSortLen _ h17.1) fun x18 h18 => ?_
    have g := h17.2
    refine Ok.bind (pickOk g (by omega) (by omega)) fun x19 h19 => ?_
    have g := h19.2.2
    refine Ok.cond (fun _ => Ok.bind (pickOk g (by omega) (by omega)) fun y hy => Ok.chk hy.1 (Ok.chk (hy.2.1 (by omega)) (Ok.chk (by have h1 := hy.1; have h2 := hy.2.1 (by omega); simp; omega) (Ok.some ⟨by simp, by simp, h18, by simp⟩)))) fun _ => ?_
    refine Ok.cond (fun _ => Ok.bind (pickOk g (by omega) (by omega)) fun y hy => Ok.chk hy.1 (Ok.chk (hy.2.1 (by omega)) (Ok.chk (by have h1 := hy.1; have h2 := hy.2.1 (by omega); simp; omega) (Ok.some ⟨by simp, by simp, h18, by simp⟩)))) fun _ => ?_
    refine Ok.cond (fun _ => Ok.bind (pickOk g (by omega) (by omega)) fun y hy => Ok.chk hy.1 (Ok.chk (hy.2.1 (by omega)) (Ok.chk (by have h1 := hy.1; have h2 := hy.2.1 (by omega); simp; omega) (Ok.some ⟨by simp, by simp, h18, by simp⟩)))) fun _ => ?_
    refine Ok.cond (fun _ => Ok.some ⟨by simp, by simp, h18, by simp⟩) fun _ => ?_
    exact Ok.cond (fun _ => Ok.bind mx fun _ _ => Ok.bind mx fun _ _ => Ok.bind (pickOk g (by omega) (by omega)) fun y hy => Ok.chk hy.1 (Ok.chk (hy.2.1 (by omega)) (Ok.chk (by have h1 := hy.1; have h2 := hy.2.1 (by omega); simp; omega) (Ok.some ⟨by simp, by simp, h18, by simp⟩)))) fun _ => Ok.some ⟨by simp, by simp, h18, by simp⟩
  refine Ok.cond (fun _ => ?_) fun _ => ?_
  · refine Ok.bind (l72OutOk g (by omega)) fun x26 h26 => ?_
    refine Ok.bind (l72OutOk h26 (by omega)) fun x27 g => ?_
    refine Ok.bind (P := fun b => b.length ≤ 1000) (Ok.imp (specOutSort _ (by simp)) fun b hb => by rw [hb.1.length_eq]; simp) fun x28 h28 => ?_
    refine Ok.bind (pickOk g (by omega) (by omega)) fun x29 h29 => ?_
    have g := h29.2.2
    refine Ok.cond (fun _ => Ok.bind (pickOk g (by omega) (by omega)) fun y hy => Ok.chk hy.1 (Ok.chk (hy.2.1 (by omega)) (Ok.chk (by have h1 := hy.1; have h2 := hy.2.1 (by omega); simp; omega) (Ok.some ⟨by simp, by simp, by simp, h28⟩)))) fun _ => ?_
    refine Ok.cond (fun _ => Ok.bind (pickOk g (by omega) (by omega)) fun y hy => Ok.chk hy.1 (Ok.chk (hy.2.1 (by omega)) (Ok.chk (by have h1 := hy.1; have h2 := hy.2.1 (by omega); simp; omega) (Ok.some ⟨by simp, by simp, by simp, h28⟩)))) fun _ => ?_
    refine Ok.cond (fun _ => Ok.bind (pickOk g (by omega) (by omega)) fun y hy => Ok.chk hy.1 (Ok.chk (hy.2.1 (by omega)) (Ok.chk (by have h1 := hy.1; have h2 := hy.2.1 (by omega); simp; omega) (Ok.some ⟨by simp, by simp, by simp, h28⟩)))) fun _ => ?_
    refine Ok.cond (fun _ => Ok.some ⟨by simp, by simp, by simp, h28⟩) fun _ => ?_
    exact Ok.cond (fun _ => Ok.bind mx fun _ _ => Ok.bind mx fun _ _ => Ok.bind (pickOk g (by omega) (by omega)) fun y hy => Ok.chk hy.1 (Ok.chk (hy.2.1 (by omega)) (Ok.chk (by have h1 := hy.1; have h2 := hy.2.1 (by omega); simp; omega) (Ok.some ⟨by simp, by simp, by simp, h28⟩)))) fun _ => Ok.some ⟨by simp, by simp, by simp, h28⟩
  · refine Ok.bind (pickOk g (by omega) (by omega)) fun x36 h36 => ?_
    have g := h36.2.2
    refine Ok.cond (fun _ => Ok.bind (pickOk g (by omega) (by omega)) fun y hy => Ok.chk hy.1 (Ok.chk (hy.2.1 (by omega)) (Ok.chk (by have h1 := hy.1; have h2 := hy.2.1 (by omega); simp; omega) (Ok.some (by simp [ShortW]))))) fun _ => ?_
    refine Ok.cond (fun _ => Ok.bind (pickOk g (by omega) (by omega)) fun y hy => Ok.chk hy.1 (Ok.chk (hy.2.1 (by omega)) (Ok.chk (by have h1 := hy.1; have h2 := hy.2.1 (by omega); simp; omega) (Ok.some (by simp [ShortW]))))) fun _ => ?_
    refine Ok.cond (fun _ => Ok.bind (pickOk g (by omega) (by omega)) fun y hy => Ok.chk hy.1 (Ok.chk (hy.2.1 (by omega)) (Ok.chk (by have h1 := hy.1; have h2 := hy.2.1 (by omega); simp; omega) (Ok.some (by simp [ShortW]))))) fun _ => ?_
    refine Ok.cond (fun _ => Ok.some (by simp [ShortW])) fun _ => ?_
    exact Ok.cond (fun _ => Ok.bind mx fun _ _ => Ok.bind mx fun _ _ => Ok.bind (pickOk g (by omega) (by omega)) fun y hy => Ok.chk hy.1 (Ok.chk (hy.2.1 (by omega)) (Ok.chk (by have h1 := hy.1; have h2 := hy.2.1 (by omega); simp; omega) (Ok.some (by simp [ShortW]))))) fun _ => Ok.some (by simp [ShortW])

theorem drawWordPackOk (a : List Int) (ha : ∀ x ∈ a, 0 ≤ x ∧ x ≤ 255) : Ok (fun k => spec_DrawWordPack k a) (fun b => ShortW b) :=
  Ok.step (fun k => spec_DrawWordPack_eq k a) (Ok.bind (openOk a ha) fun x0 h0 => Ok.bind (l72WordOk h0 (by omega)) fun x1 h1 => Ok.some h1)
end Go.Proofs.Ytjgpacfhokpfdaa.SFnWordBack
