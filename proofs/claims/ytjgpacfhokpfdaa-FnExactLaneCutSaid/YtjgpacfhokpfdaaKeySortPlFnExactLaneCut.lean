/- The heap of events' keys; the reference's EventSort with what it holds. -/
import Derived.Test.YtjgpacfhokpfdaaOkPlFnExactLaneCut
import Derived.Test.YtjgpacfhokpfdaaOrdPlFnExactLaneCut
import Derived.Test.YtjgpacfhokpfdaaHeapPlFnExactLaneCut
set_option linter.unusedVariables false
set_option linter.unusedSimpArgs false
namespace Go.Proofs.Ytjgpacfhokpfdaa.SFnExactLaneCut
open Go Go.Sx Go.Pl
abbrev dE : Ev7 := dflt t_impl_Event

theorem TotE : Tot lessE := ⟨fun x y h => lexAsym _ _ h, fun x y z h h' => lexTrans _ _ _ h h', fun x y h h' => lessE_tot h h'⟩

theorem implKeyLess (x y : Ev7) : Ev (fun k => impl_keyLess k x y) (lessE x y) :=
  Ev.step (fun k => impl_keyLess_eq k _ _) (Ev.bind (compare_ev _ _ (by simp)) ((Ev.now _).to (cmpLex _ _)))

theorem okKeyLess (x y : Ev7) : Ok (fun k => impl_keyLess k x y) (fun b => b = lessE x y) := ⟨_, implKeyLess x y, rfl⟩

theorem okSpecLessE (x y : Ev7) : Ok (fun k => spec_EventLess k x y) (fun b => b = lessE x y) := ⟨_, Ev.of 1 fun m => specEventLess m x y, rfl⟩

/-! ### the reference's EventSort -/
def Srt (s : List Ev7) : Prop := s.Pairwise (fun x y => lessE x y = true)

theorem strict_eq : ∀ {a b : List Ev7}, Srt a → Srt b → (∀ y, y ∈ a ↔ y ∈ b) → a = b
  | [], [], _, _, _ => rfl
  | [], y :: b, _, _, h => by have := (h y).2 List.mem_cons_self; cases this
  | x :: a, [], _, _, h => by have := (h x).1 List.mem_cons_self; cases this
  | x :: a, y :: b, ha, hb, h => by
    obtain ⟨ha1, ha2⟩ := List.pairwise_cons.1 ha
    obtain ⟨hb1, hb2⟩ := List.pairwise_cons.1 hb
    have hxy : x = y := by
      rcases List.mem_cons.1 ((h x).1 List.mem_cons_self) with e | hx
      · exact e
      rcases List.mem_cons.1 ((h y).2 List.mem_cons_self) with e | hy
      · exact e.symm
      have h1 := ha1 y hy
      have h2 := TotE.asym _ _ (hb1 x hx)
      rw [h1] at h2; cases h2
    subst hxy
    have irr : ∀ z, lessE x z = true → z ≠ x := by
      intro z hz e
      subst e
      have := TotE.asym _ _ hz
      rw [hz] at this; cases this
    rw [strict_eq ha2 hb2 fun z => ⟨fun hz => ?_, fun hz => ?_⟩]
    · rcases List.mem_cons.1 ((h z).1 (List.mem_cons_of_mem _ hz)) with e | h'
      · exact absurd e (irr z (ha1 z hz))
      · exact h'
    · rcases List.mem_cons.1 ((h z).2 (List.mem_cons_of_mem _ hz)) with e | h'
      · exact absurd e (irr z (hb1 z hz))
      · exact h'

theorem setAtL {α : Type} (a : List α) (x y : α) (b : List α) : (a ++ x :: b).set a.length y = a ++ y :: b := by
  induction a with
  | nil => rfl
  | cons z a ih => simp [ih]

theorem setMid {α : Type} (s : List α) (n : Nat) (hn : n ≤ s.length) (c v : α) : (s.take n ++ c :: s.drop n).set n v = s.take n ++ v :: s.drop n := by
  have := setAtL (s.take n) c v (s.drop n)
  rw [List.length_take, Nat.min_eq_left hn] at this
  exact this

theorem getMid {α : Type} (s : List α) (n i : Nat) (hi : i < n) (hn : n ≤ s.length) (c d : α) : (s.take n ++ c :: s.drop n).getD i d = s.getD i d := by
  rw [List.getD_eq_getElem?_getD, List.getD_eq_getElem?_getD, List.getElem?_append_left (by rw [List.length_take]; omega), List.getElem?_take, if_pos hi]

theorem midStep {α : Type} (s : List α) (n : Nat) (hn : n < s.length) (d : α) : s.take (n + 1) ++ s.getD n d :: s.drop (n + 1) = s.take n ++ s.getD n d :: s.drop n := by
  rw [getD_drop s d n hn, List.take_succ_eq_append_getElem hn, List.append_assoc, gD s d n hn]
  rfl

theorem insStrict {x : Ev7} {l : List Ev7} {k : Nat} (hs : Srt l) (h1 : ∀ y ∈ l.take k, lessE y x = true) (h2 : ∀ y ∈ l.drop k, lessE x y = true) : Srt (insM lessE x l k) := by
  unfold insM Srt
  have hs2 : (l.take k ++ l.drop k).Pairwise (fun x y => lessE x y = true) := by rw [List.take_append_drop]; exact hs
  rw [List.pairwise_append] at hs2
  obtain ⟨p1, p2, p3⟩ := hs2
  rw [List.append_assoc, List.pairwise_append]
  refine ⟨p1, List.pairwise_cons.2 ⟨h2, p2⟩, fun a ha b hb => ?_⟩
  rcases List.mem_cons.1 hb with rfl | hb
  · exact h1 a ha
  · exact p3 a ha b hb

theorem ev_eq {p q : Ev7} (h : (p.1 == q.1 && (p.2.1 == q.2.1 && (p.2.2.1 == q.2.2.1 && (p.2.2.2.1 == q.2.2.2.1 && (p.2.2.2.2.1 == q.2.2.2.2.1 && (p.2.2.2.2.2.1 == q.2.2.2.2.2.1 && (p.2.2.2.2.2.2 == q.2.2.2.2.2.2 && true))))))) = true) : p = q := by
  simp only [Bool.and_eq_true, beq_iff_eq, and_true] at h
  obtain ⟨h1, h2, h3, h4, h5, h6, h7⟩ := h
  exact Prod.ext h1 (Prod.ext h2 (Prod.ext h3 (Prod.ext h4 (Prod.ext h5 (Prod.ext h6 h7)))))

end Go.Proofs.Ytjgpacfhokpfdaa.SFnExactLaneCut
