/- Proved: a drawn word that is ok is read back from its bytes by the program; one that is not ok has none. No condition of ours. -/
import Derived.Test.YtjgpacfhokpfdaaUnpackPlFnWordBack
import Derived.Test.YtjgpacfhokpfdaaWordDrawPlFnWordBack
set_option linter.unusedVariables false
set_option linter.unusedSimpArgs false
namespace Go.Proofs.Ytjgpacfhokpfdaa.Pure
open Go Go.Sx Go.Pl Go.Proofs.Ytjgpacfhokpfdaa.SFnWordBack
theorem u8 {x : Int} (h : Go.Sx.Good t_uint8 x) : 0 ≤ x ∧ x ≤ 255 := by
  have h : (Lit.int .u8 x).wf = true := h
  simp [Lit.wf, IntKind.min, IntKind.max, IntKind.signed, IntKind.bits] at h
  omega
theorem same (b : Bool) : (!(b == b)) = false := by cases b <;> rfl
theorem ltIntV (l : List Int) (hl : l.length ≤ 1048576) : Ev (fun k => laws_ltInts k l l) true := by
  refine Ev.step (fun k => laws_ltInts_eq k l l) ?_
  simp only [bne_self_eq_false, cond_false]
  refine EvL.ev (L := fun k j => laws_ltInts_4 k j l l 0) ?_
  refine loop_up (fun k j i => laws_ltInts_4 k j l l (i : Int)) l.length (fun _ => true) ?_ (fun i hi hr => ?_) 0 (by omega)
  · refine EvL.step (M := fun _ _ => some true) (fun k j => ?_) (EvL.now _)
    rw [laws_ltInts_4_eq, decide_eq_false (by omega), cond_false]
  · have c1 : (i : Int) < (l.length : Int) := by omega
    have c2 : (0 : Int) ≤ (i : Int) := by omega
    refine EvL.step (fun k j => laws_ltInts_4_eq k j l l (i : Int)) ?_
    simp only [decide_eq_true c1, decide_eq_true c2, cond_true, Int.toNat_natCast, w64n i (by omega), bne_self_eq_false, cond_false]
    exact hr
theorem ltEvV (l : List Ev7) (hl : l.length ≤ 1048576) : Ev (fun k => laws_ltEvents k l l) true := by
  refine Ev.step (fun k => laws_ltEvents_eq k l l) ?_
  simp only [bne_self_eq_false, cond_false]
  refine EvL.ev (L := fun k j => laws_ltEvents_4 k j l l 0) ?_
  refine loop_up (fun k j i => laws_ltEvents_4 k j l l (i : Int)) l.length (fun _ => true) ?_ (fun i hi hr => ?_) 0 (by omega)
  · refine EvL.step (M := fun _ _ => some true) (fun k j => ?_) (EvL.now _)
    rw [laws_ltEvents_4_eq, decide_eq_false (by omega), cond_false]
  · have c1 : (i : Int) < (l.length : Int) := by omega
    have c2 : (0 : Int) ≤ (i : Int) := by omega
    refine EvL.step (fun k j => laws_ltEvents_4_eq k j l l (i : Int)) ?_
    simp only [decide_eq_true c1, decide_eq_true c2, cond_true, Int.toNat_natCast, w64n i (by omega), beq_self_eq_true, Bool.and_self, Bool.not_true, cond_false]
    exact hr
theorem ltOuV (l : List Ou5) (hl : l.length ≤ 1048576) : Ev (fun k => laws_ltOuts k l l) true := by
  refine Ev.step (fun k => laws_ltOuts_eq k l l) ?_
  simp only [bne_self_eq_false, cond_false]
  refine EvL.ev (L := fun k j => laws_ltOuts_4 k j l l 0) ?_
  refine loop_up (fun k j i => laws_ltOuts_4 k j l l (i : Int)) l.length (fun _ => true) ?_ (fun i hi hr => ?_) 0 (by omega)
  · refine EvL.step (M := fun _ _ => some true) (fun k j => ?_) (EvL.now _)
    rw [laws_ltOuts_4_eq, decide_eq_false (by omega), cond_false]
  · have c1 : (i : Int) < (l.length : Int) := by omega
    have c2 : (0 : Int) ≤ (i : Int) := by omega
    refine EvL.step (fun k j => laws_ltOuts_4_eq k j l l (i : Int)) ?_
    simp only [decide_eq_true c1, decide_eq_true c2, cond_true, Int.toNat_natCast, w64n i (by omega), beq_self_eq_true, Bool.and_self, Bool.not_true, cond_false]
    exact hr
theorem sameB (l : List Int) (hl : l.length ≤ 1000000000) : Ev (fun k => slices_Equal_byte_byte k l l) true := by
  refine Ev.step (fun k => slices_Equal_byte_byte_eq k l l) ?_
  simp only [bne_self_eq_false, cond_false]
  refine EvL.ev (L := fun k j => slices_Equal_byte_byte_4 k j l l (l.length : Int) 0) ?_
  refine loop_up (fun k j i => slices_Equal_byte_byte_4 k j l l (l.length : Int) (i : Int)) l.length (fun _ => true) ?_ (fun i hi hr => ?_) 0 (by omega)
  · refine EvL.step (M := fun _ _ => some true) (fun k j => ?_) (EvL.now _)
    rw [slices_Equal_byte_byte_4_eq, decide_eq_false (by omega), cond_false]
  · have c1 : (i : Int) < (l.length : Int) := by omega
    have c2 : (0 : Int) ≤ (i : Int) := by omega
    refine EvL.step (fun k j => slices_Equal_byte_byte_4_eq k j l l (l.length : Int) (i : Int)) ?_
    simp only [decide_eq_true c1, decide_eq_true c2, cond_true, Int.toNat_natCast, w64n i (by omega), bne_self_eq_false, cond_false]
    exact hr
theorem ltWo (x : Wo) (hs : SmallWo x) : Ev (fun k => laws_ltWord k x x) true := by
  refine Ev.step (fun k => laws_ltWord_eq k x x) ?_
  simp only [beq_self_eq_true, cond_true]
  obtain ⟨s1, s2, s3, s4⟩ := hs
  refine Ev.bind (ltIntV _ s1) (Ev.cond (fun _ => ?_) fun h => by cases h)
  refine Ev.bind (ltIntV _ s2) (Ev.cond (fun _ => ?_) fun h => by cases h)
  refine Ev.bind (ltEvV _ s3) (Ev.cond (fun _ => ?_) fun h => by cases h)
  exact Ev.bind (ltOuV _ s4) (Ev.now _)
theorem counts_le {l : List Int} (h : countsM l = true) : l.length ≤ 3 := by
  unfold countsM at h
  simp only [Bool.and_eq_true, Bool.or_eq_true, decide_eq_true_eq] at h
  omega
theorem unpackAll (x : Wo) (hs : SmallWo x) (h : wordM x = true) : Ev (fun k => impl_WordUnpack k (packM x)) (x, true) := by
  have hN := word_num h
  have hl := pack_len x hs hN
  have hw := h
  simp only [wordM, Bool.and_eq_true] at hw
  obtain ⟨_, _, _, _, _, _, _, h8, h9, h10, h11⟩ := hw
  have c8 := counts_le h8
  have c9 := counts_le h9
  simp only [eventsM, Bool.and_eq_true, decide_eq_true_eq] at h10
  simp only [outsM, Bool.and_eq_true, decide_eq_true_eq] at h11
  obtain ⟨t, hp, ht⟩ := implPack x hs word_num
  rw [h] at ht
  have ht : t = packM x := ht
  subst ht
  obtain ⟨v1, v2, v3, v4, v5, v6, v7, l1, l2, es, os⟩ := x
  have c8 : l1.length ≤ 3 := c8
  have c9 : l2.length ≤ 3 := c9
  have hB : packM (v1, v2, v3, v4, v5, v6, v7, l1, l2, es, os) = [] ++ (enc (v1 + 1).toNat ++ (enc (v2 + 1).toNat ++ (enc (v3 + 1).toNat ++ (enc (v4 + 1).toNat ++ (enc (v5 + 1).toNat ++ (enc (v6 + 1).toNat ++ (enc (v7 + 1).toNat ++ (numsP l1 ++ (numsP l2 ++ ((enc (es.length + 1) ++ evs es) ++ ((enc (os.length + 1) ++ ous os) ++ []))))))))))) := by
    unfold packM encs headL
    simp only [List.flatMap_cons, List.flatMap_nil, List.append_nil, List.append_assoc, List.nil_append]
  obtain ⟨n1, n2, n3, n4, n5⟩ := hN
  have m : ∀ v ∈ [v1, v2, v3, v4, v5, v6, v7], NumI v := n1
  simp only [List.mem_cons, List.not_mem_nil, or_false, forall_eq_or_imp, forall_eq] at m
  obtain ⟨m1, m2, m3, m4, m5, m6, m7⟩ := m
  have hw2 := implWord _ hs
  rw [h] at hw2
  generalize hBB : packM (v1, v2, v3, v4, v5, v6, v7, l1, l2, es, os) = B at *
  have hl : B.length ≤ 1000000000 := by omega
  refine Ev.step (fun k => impl_WordUnpack_eq k B) ?_
  refine Ev.bind (readNum (P := []) m1 hB hl) ?_
  refine Ev.bind (readNum (P := [] ++ _) m2 (by rw [hB]; simp only [List.append_assoc]; rfl) hl) ?_
  refine Ev.bind (readNum (P := [] ++ _ ++ _) m3 (by rw [hB]; simp only [List.append_assoc]; rfl) hl) ?_
  refine Ev.bind (readNum (P := [] ++ _ ++ _ ++ _) m4 (by rw [hB]; simp only [List.append_assoc]; rfl) hl) ?_
  refine Ev.bind (readNum (P := [] ++ _ ++ _ ++ _ ++ _) m5 (by rw [hB]; simp only [List.append_assoc]; rfl) hl) ?_
  refine Ev.bind (readNum (P := [] ++ _ ++ _ ++ _ ++ _ ++ _) m6 (by rw [hB]; simp only [List.append_assoc]; rfl) hl) ?_
  refine Ev.bind (readNum (P := [] ++ _ ++ _ ++ _ ++ _ ++ _ ++ _) m7 (by rw [hB]; simp only [List.append_assoc]; rfl) hl) ?_
  refine Ev.bind (readNums (P := [] ++ _ ++ _ ++ _ ++ _ ++ _ ++ _ ++ _) (l := l1) n2 (by omega) (by omega) (by rw [hB]; simp only [List.append_assoc]; rfl) hl) ?_
  refine Ev.bind (readNums (P := [] ++ _ ++ _ ++ _ ++ _ ++ _ ++ _ ++ _ ++ _) (l := l2) n3 (by omega) (by omega) (by rw [hB]; simp only [List.append_assoc]; rfl) hl) ?_
  refine Ev.bind (readEvs (P := [] ++ _ ++ _ ++ _ ++ _ ++ _ ++ _ ++ _ ++ _ ++ _) (l := es) n4 h10.1 (by rw [hB]; simp only [List.append_assoc]; rfl) hl) ?_
  refine Ev.bind (readOus (P := [] ++ _ ++ _ ++ _ ++ _ ++ _ ++ _ ++ _ ++ _ ++ _ ++ _) (l := os) (R := []) n5 h11.1 (by rw [hB]; simp only [List.append_assoc]) hl) ?_
  refine Ev.bind (b := false) (Ev.of 1 fun m => errors_Is_h0_eq m 1) (Ev.cond (fun h => by cases h) fun _ => ?_)
  refine Ev.bind (b := false) (Ev.of 1 fun m => errors_Is_h0_eq m 2) (Ev.cond (fun h => by cases h) fun _ => ?_)
  refine Ev.cond (fun h => ?_) fun _ => ?_
  · exfalso
    rw [bne_iff_ne] at h
    refine h ?_
    rw [hB]
    simp only [List.append_assoc, List.append_nil]
  refine Ev.bind hw2 (Ev.cond (fun h => by cases h) fun _ => ?_)
  refine Ev.bind hp (Ev.bind (sameB B hl) (Ev.cond (fun h => by cases h) fun _ => Ev.now _))
theorem bself (s : ByteArray) : (s != s) = false := by
  cases s with
  | mk d =>
    show (!(d == d)) = false
    simp
theorem law (a : List Int) (ha : ∀ x ∈ a, 0 ≤ x ∧ x ≤ 255) : Ev (fun k => laws_FnWordBack k a) true := by
  refine Ev.step (fun k => laws_FnWordBack_eq k a) (Ev.cond (fun _ => Ev.now _) fun _ => ?_)
  obtain ⟨x, h0, hx⟩ := drawWordPackOk a ha
  obtain ⟨z1, z2, z3, z4⟩ := hx
  have hs : SmallWo x := ⟨by omega, by omega, by omega, by omega⟩
  refine Ev.bind h0 ?_
  obtain ⟨s, h1, hs1⟩ := specPack x hs word_num
  obtain ⟨t, h2, ht1⟩ := implPack x hs word_num
  have hst : t = s := ht1.trans hs1.symm
  subst hst
  refine Ev.bind h1 (Ev.bind (specWord x hs) (Ev.bind h2 ?_))
  refine Ev.cond (fun h => absurd h (by rw [bself]; decide)) fun _ => ?_
  refine Ev.bind (implWord x hs) (Ev.cond (fun h => absurd h (by rw [same]; decide)) fun _ => Ev.cond (fun h => ?_) fun h => ?_)
  · have h : wordM x = false := by simpa using h
    rw [h] at ht1
    have ht1 : t = [] := ht1
    subst ht1
    exact Ev.now _
  · have h : wordM x = true := by simpa using h
    rw [h] at ht1
    have ht1 : t = packM x := ht1
    subst ht1
    refine Ev.bind (unpackAll x hs h) (Ev.cond (fun _ => ?_) fun h => by cases h)
    exact Ev.bind (ltWo x hs) (Ev.now _)
theorem FnWordBack : Goal := fun a ha => (law a (fun x hx => u8 (ha.2 x hx))).ex
end Go.Proofs.Ytjgpacfhokpfdaa.Pure
