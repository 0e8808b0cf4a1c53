/- Proved: the program's WordPack is the reference's at every word; it writes into no argument, and its answer owns its memory. No condition of ours. -/
import Derived.Test.YtjgpacfhokpfdaaPackPlFnExactWordPack
import Derived.Test.YtjgpacfhokpfdaaMarkPlFnExactWordPack
set_option linter.unusedVariables false
namespace Go.Proofs.Ytjgpacfhokpfdaa.Pure
open Go Go.Sx Go.Pl Go.Proofs.Ytjgpacfhokpfdaa.SFnExactWordPack
theorem eqB (s : List Int) (hs : s.length ≤ 1000000000) : Ev (fun k => laws_eqByteS k s s) true := by
  refine Ev.step (fun k => laws_eqByteS_eq k s s) ?_
  simp only [bne_self_eq_false, cond_false]
  refine EvL.ev (L := fun k j => laws_eqByteS_4 k j s s 0) ?_
  refine loop_up (fun k j i => laws_eqByteS_4 k j s s (i : Int)) s.length (fun _ => true) ?_ (fun i hi hr => ?_) 0 (by omega)
  · exact EvL.step (M := fun _ _ => some true) (fun k j => by rw [laws_eqByteS_4_eq, decide_eq_false (by omega), cond_false]) (EvL.now _)
  · have c1 : (i : Int) < (s.length : Int) := by omega
    have c2 : (0 : Int) ≤ (i : Int) := by omega
    refine EvL.step (fun k j => laws_eqByteS_4_eq k j s s (i : Int)) ?_
    simp only [decide_eq_true c1, decide_eq_true c2, cond_true, Int.toNat_natCast, w64n i (by omega), bne_self_eq_false, cond_false]
    exact hr
theorem markW (x : Wo) (hs : SmallWo x) : Ok (fun k => laws_markWord_h0 k x.1 x.2.1 x.2.2.1 x.2.2.2.1 x.2.2.2.2.1 x.2.2.2.2.2.1 x.2.2.2.2.2.2.1 1 x.2.2.2.2.2.2.2.1 x.2.2.2.2.2.2.2.2.1 x.2.2.2.2.2.2.2.2.2.1 x.2.2.2.2.2.2.2.2.2.2) (fun b => 0 ≤ b.1) := by
  obtain ⟨s1, s2, s3, s4⟩ := hs
  refine Ok.step (fun k => laws_markWord_h0_eq k _ _ _ _ _ _ _ _ _ _ _ _) ?_
  refine Ok.bind (P := fun b => b.1 = 1 + (x.2.2.2.2.2.2.2.1.length : Int)) ⟨_, markI 1 (by omega) (by omega) _ (by omega), rfl⟩ fun a ha => ?_
  rw [ha]
  refine Ok.bind (P := fun b => b.1 = 1 + (x.2.2.2.2.2.2.2.1.length : Int) + (x.2.2.2.2.2.2.2.2.1.length : Int)) ⟨_, markI _ (by omega) (by omega) _ (by omega), rfl⟩ fun b hb => ?_
  rw [hb]
  refine Ok.bind (markE _ (by omega) (by omega) _ s3) fun c hc => ?_
  rw [hc]
  refine Ok.bind (P := fun d => 0 ≤ d.1) ⟨_, markO _ (by omega) (by omega) _ s4, ?_⟩ fun d hd => Ok.some hd
  show (0 : Int) ≤ _
  omega
theorem goal (x : Wo) (hlong : LongWo x) : ∃ k, laws_FnExactWordPack k x = some true := by
  refine Ev.ex (r := true) ?_
  refine Ev.step (fun k => laws_FnExactWordPack_eq k x) ?_
  obtain ⟨r, hr, hr1, hr2⟩ := szWord x 1048576 (by decide) (by decide) hlong
  refine Ev.bind hr (Ev.cond (fun _ => Ev.now _) fun h0 => ?_)
  have h0 : ¬ r < 0 := by simpa using h0
  have hs := hr2 (by omega)
  have ht := toWord x hs
  clear hlong
  obtain ⟨s, h1, hs1⟩ := specPack x hs word_num
  obtain ⟨t, h2, ht1⟩ := implPack x hs word_num
  have hst : t = s := ht1.trans hs1.symm
  subst hst
  have hlen : t.length ≤ 200000000 := by
    rw [ht1]
    cases h : wordM x with
    | true => exact pack_len x hs (word_num h)
    | false => exact Nat.zero_le _
  clear ht1 hs1
  obtain ⟨m, hm, hm0⟩ := markW x hs
  have he := eqB t (by omega)
  refine Ev.bind ht (Ev.bind h1 (Ev.bind ht (Ev.bind h2 (Ev.bind he ?_))))
  simp only [Bool.not_true, cond_false]
  have hw : Ev (fun k => laws_eqWord k x x) true := (eqWord x x hs).to (by simp)
  refine Ev.bind ht (Ev.bind hw ?_)
  simp only [Bool.not_true, cond_false]
  refine Ev.bind hm ?_
  rw [decide_eq_false (show ¬ m.1 < 0 from fun h => by have : (0 : Int) ≤ m.1 := hm0; exact absurd h (Int.not_lt.2 this))]
  show Ev (fun k => (laws_eqByteS k t t).bind fun x9 => _) true
  refine Ev.bind he ?_
  simp only [Bool.not_true, cond_false]
  refine Ev.bind (markB 1 (by omega) (by omega) t (by omega)) (Ev.bind (heldB 1 (by omega) (by omega) t.length (by omega)) ?_)
  simp only [decide_eq_false (show ¬ 1 + (t.length : Int) < 0 by omega), cond_false, bne_self_eq_false]
  refine Ev.bind ht (Ev.bind h2 (Ev.bind he ?_))
  simp only [Bool.not_true, cond_false]
  refine Ev.bind (heldB 1 (by omega) (by omega) t.length (by omega)) ?_
  simp only [decide_eq_false (show ¬ 1 + (t.length : Int) < 0 by omega), cond_false, bne_self_eq_false]
  exact Ev.now _
theorem FnExactWordPack : Goal := fun x hg => goal x (by
    obtain ⟨_, _, _, _, _, _, _, h1, h2, h3, h4⟩ := hg
    exact ⟨h1.1, h2.1, h3.1, h4.1⟩)
end Go.Proofs.Ytjgpacfhokpfdaa.Pure
