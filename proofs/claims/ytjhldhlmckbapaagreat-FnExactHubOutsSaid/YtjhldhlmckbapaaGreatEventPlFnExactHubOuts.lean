/- The program's EventSort: a map of what came, a heap of what is new. It is the reference's. -/
import Derived.Test.YtjhldhlmckbapaaGreatKeySortPlFnExactHubOuts
import Derived.Test.YtjhldhlmckbapaaGreatSx23
set_option linter.unusedVariables false
set_option linter.unusedSimpArgs false
namespace Go.Proofs.YtjhldhlmckbapaaGreat.SFnExactHubOuts
open Go Go.Sx Go.Pl
def WfE (x : Ev7) : Prop := (Lit.int .i64 x.1).wf = true ∧ (Lit.int .i64 x.2.1).wf = true ∧ (Lit.int .i64 x.2.2.1).wf = true ∧ (Lit.int .i64 x.2.2.2.1).wf = true ∧ (Lit.int .i64 x.2.2.2.2.1).wf = true ∧ (Lit.int .i64 x.2.2.2.2.2.1).wf = true ∧ (Lit.int .i64 x.2.2.2.2.2.2).wf = true

/-- The map tells of each that came how often it did. -/
structure EsInv (es : List (List Int × Int)) (K : List Ev7) (i : Nat) : Prop where
  keys : es.map (·.1) = K.map evL
  nd : K.Nodup
  cnt : ∀ e ∈ es, 1 ≤ e.2 ∧ e.2 ≤ (i : Int)

theorem keys_nd {K : List Ev7} (h : K.Nodup) : (K.map evL).Nodup := List.pairwise_map.2 (h.imp fun hne e => hne (evL_inj e))

theorem modL {α : Type} (f : α → α) (a : List α) (x : α) : (a ++ [x]).modify a.length f = a ++ [f x] := by
  induction a with
  | nil => rfl
  | cons y a ih => simp [ih]

def stepM (es : List (List Int × Int)) (k : List Int) : List (List Int × Int) := mput (madd es k) (mix es k) (IntKind.i64.wrap (mval es k + 1))

theorem stepNew {es : List (List Int × Int)} {K : List Ev7} {i : Nat} (h : EsInv es K i) {x : Ev7} (hx : x ∉ K) : mix es (evL x) < (madd es (evL x)).length ∧ mval (stepM es (evL x)) (evL x) = 1 ∧ EsInv (stepM es (evL x)) (K ++ [x]) (i + 1) := by
  have hm : mfind es (evL x) 0 = none := mfind_none fun e he hk => hx (by
    have : e.1 ∈ K.map evL := by rw [← h.keys]; exact List.mem_map.2 ⟨e, he, rfl⟩
    obtain ⟨y, hy, he2⟩ := List.mem_map.1 this
    rw [hk] at he2
    rw [← evL_inj he2]; exact hy)
  have e1 : mval es (evL x) = 0 := by unfold mval; rw [hm]
  have e2 : mix es (evL x) = es.length := by unfold mix; rw [hm]
  have e3 : madd es (evL x) = es ++ [(evL x, 0)] := by unfold madd; rw [hm]
  have e4 : stepM es (evL x) = es ++ [(evL x, 1)] := by
    unfold stepM mput
    rw [e1, e2, e3, modL]
    rfl
  have hn : (K ++ [x]).Nodup := by
    rw [List.nodup_append]
    exact ⟨h.nd, by simp, fun a ha b hb => by simp only [List.mem_singleton] at hb; subst hb; exact fun e => hx (e ▸ ha)⟩
  have hk : (es ++ [(evL x, (1 : Int))]).map (·.1) = (K ++ [x]).map evL := by
    rw [List.map_append, List.map_append, h.keys]; rfl
  refine ⟨by rw [e2, e3]; simp, ?_, ?_⟩
  · rw [e4]
    have := mfind_at (k := evL x) (v := 1) (es := es ++ [(evL x, 1)]) (i := 0) (j := es.length) (by rw [hk]; exact keys_nd hn) (by simp)
    unfold mval; rw [this]
  · rw [e4]
    refine ⟨hk, hn, fun e he => ?_⟩
    rcases List.mem_append.1 he with he | he
    · have := h.cnt e he; exact ⟨this.1, by omega⟩
    · simp only [List.mem_singleton] at he
      subst he
      exact ⟨Int.le_refl _, by show (1 : Int) ≤ _; omega⟩

theorem stepOld {es : List (List Int × Int)} {K : List Ev7} {i : Nat} (h : EsInv es K i) (hi : i ≤ 1048576) {x : Ev7} (hx : x ∈ K) : mix es (evL x) < (madd es (evL x)).length ∧ mval (stepM es (evL x)) (evL x) ≠ 1 ∧ EsInv (stepM es (evL x)) K (i + 1) := by
  have hnd : (es.map (·.1)).Nodup := by rw [h.keys]; exact keys_nd h.nd
  have : evL x ∈ es.map (·.1) := by rw [h.keys]; exact List.mem_map.2 ⟨x, hx, rfl⟩
  obtain ⟨⟨k, v⟩, he, hk⟩ := List.mem_map.1 this
  have hk : k = evL x := hk
  subst hk
  obtain ⟨j, hj⟩ := List.mem_iff_getElem?.1 he
  have hjl : j < es.length := (List.getElem?_eq_some_iff.1 hj).1
  have hm := mfind_at (i := 0) hnd hj
  rw [Nat.zero_add] at hm
  obtain ⟨b1, b2⟩ := h.cnt _ he
  have b1 : 1 ≤ v := b1
  have b2 : v ≤ (i : Int) := b2
  have e1 : mval es (evL x) = v := by unfold mval; rw [hm]
  have e2 : mix es (evL x) = j := by unfold mix; rw [hm]
  have e3 : madd es (evL x) = es := by unfold madd; rw [hm]
  have e4 : stepM es (evL x) = mput es j (v + 1) := by
    unfold stepM
    rw [e1, e2, e3, w64 (by omega) (by omega)]
  have e5 : (mput es j (v + 1))[j]? = some (evL x, v + 1) := by
    unfold mput
    rw [List.getElem?_modify, hj]
    simp
  have e6 := mput_keys es j (v + 1)
  refine ⟨by rw [e2, e3]; exact hjl, ?_, ?_⟩
  · rw [e4]
    have := mfind_at (i := 0) (by rw [e6]; exact hnd) e5
    unfold mval
    rw [this]
    show v + 1 ≠ 1
    omega
  · rw [e4]
    refine ⟨by rw [e6]; exact h.keys, h.nd, fun e he => ?_⟩
    obtain ⟨t, ht⟩ := List.mem_iff_getElem?.1 he
    unfold mput at ht
    rw [List.getElem?_modify] at ht
    cases hg : es[t]? with
    | none => rw [hg] at ht; cases ht
    | some e0 =>
      rw [hg] at ht
      simp only [Option.map_some, Option.map_eq_map, Option.some.injEq] at ht
      have c := h.cnt e0 (List.mem_of_getElem? hg)
      split at ht
      · subst ht; show 1 ≤ v + 1 ∧ v + 1 ≤ ((i + 1 : Nat) : Int); omega
      · subst ht; exact ⟨c.1, by omega⟩

theorem keyOfK (x : Ev7) : Ev (fun k => impl_keyOf k x) x := Ev.of 1 fun m => impl_keyOf_eq m x
theorem eventK (x : Ev7) : Ev (fun k => impl_eventKey_event k x) x := Ev.of 1 fun m => impl_eventKey_event_eq m x

theorem rebuildLoop (s : List Ev7) (hs : s.length ≤ 1048576) (n : Nat) : ∀ i, s.length - i = n → i ≤ s.length → OkL (fun k j => impl_EventSort_13 k j (s.length : Int) (i : Int) (s.take i) s) (fun b => b = s) := by
  induction n with
  | zero =>
    intro i hn hi
    refine OkL.step (fun k j => impl_EventSort_13_eq k j (s.length : Int) (i : Int) (s.take i) s) (OkL.cond (fun h => absurd (of_decide_eq_true h) (by omega)) fun _ => OkL.some ?_)
    exact List.take_of_length_le (by omega)
  | succ n ih =>
    intro i hn hi
    have c1 : (i : Int) < (s.length : Int) := by omega
    have c2 : (0 : Int) ≤ (i : Int) := by omega
    have c3 : i < s.length := by omega
    refine OkL.step (fun k j => impl_EventSort_13_eq k j (s.length : Int) (i : Int) (s.take i) s) ?_
    simp only [Int.toNat_natCast, decide_eq_true c1, decide_eq_true c2, decide_eq_true c3, cond_true, w64n i (by omega)]
    refine OkL.bind (P := fun b => b = s.getD i dE) ⟨_, eventK _, rfl⟩ fun x hx => ?_
    refine OkL.chk (by simp only [List.length_singleton, List.length_take]; omega) ?_
    have := ih (i + 1) (by omega) (by omega)
    have e : s.take (i + 1) = s.take i ++ [x] := by
      rw [List.take_succ_eq_append_getElem c3, hx, gD s dE i c3]
    rw [e] at this
    exact this

theorem drainOkK (h : List Ev7) (hl : h.length ≤ 1048576) (hh : Heap lessE dE h) : Ok (fun k => impl_heap_impl_eventKey_drain_h0 k h) (fun b => b.1.Perm h ∧ b.1.Pairwise (le lessE)) := by
  refine Ok.step (fun k => impl_heap_impl_eventKey_drain_h0_eq k h) (Ok.chk (by rw [Int.toNat_natCast]; omega) ?_)
  refine Ok.imp (drainLoopK h.length [] h rfl (by simp <;> omega) hh).ok fun b hb => ?_
  obtain ⟨s, h1, h2, h3⟩ := hb
  have h1 : b.1 = s := h1
  rw [h1]
  exact ⟨h2, h3⟩

theorem implLoopE (a : List Ev7) (ha : a.length ≤ 1048576) (hw : ∀ x ∈ a, WfE x) (n : Nat) : ∀ (i : Nat) (es : List (List Int × Int)) (h K : List Ev7), a.length - i = n → i ≤ a.length → K.length ≤ i → EsInv es K i → (∀ y, y ∈ K ↔ y ∈ a.take i) → Heap lessE dE h → h.Perm K →
    OkL (fun k j => impl_EventSort_4 k j a (a.length : Int) (i : Int) es h) (fun b => Srt b ∧ (∀ y, y ∈ b ↔ y ∈ a) ∧ b.length ≤ a.length) := by
  induction n with
  | zero =>
    intro i es h K hn hi hKl hinv hK hh hp
    have hl : h.length ≤ a.length := by rw [hp.length_eq]; omega
    refine OkL.step (fun k j => impl_EventSort_4_eq k j a (a.length : Int) (i : Int) es h) (OkL.cond (fun hc => absurd (of_decide_eq_true hc) (by omega)) fun _ => OkL.chk (by rw [Int.toNat_natCast]; omega) (OkL.of ?_))
    refine Ok.bind (drainOkK h (by omega) hh) fun b hb => ?_
    obtain ⟨s, b2⟩ := b
    obtain ⟨h1, h2⟩ := hb
    have h1 : s.Perm h := h1
    have h2 : s.Pairwise (le lessE) := h2
    have hsl : s.length ≤ a.length := by rw [h1.length_eq]; exact hl
    have hnd : s.Nodup := ((h1.trans hp).nodup_iff).2 hinv.nd
    have := (rebuildLoop s (by omega) _ 0 rfl (by omega)).ok
    refine Ok.imp this fun b hb => ?_
    subst hb
    refine ⟨?_, fun y => ?_, hsl⟩
    · exact (h2.and hnd).imp fun {x y} hxy => by
        cases h9 : lessE x y with
        | true => rfl
        | false => exact absurd (TotE.tot _ _ h9 hxy.1) hxy.2
    · rw [(h1.trans hp).mem_iff, hK y, List.take_of_length_le (by omega)]
  | succ n ih =>
    intro i es h K hn hi hKl hinv hK hh hp
    have c1 : (i : Int) < (a.length : Int) := by omega
    have c2 : (0 : Int) ≤ (i : Int) := by omega
    have c3 : i < a.length := by omega
    refine OkL.step (fun k j => impl_EventSort_4_eq k j a (a.length : Int) (i : Int) es h) (OkL.cond (fun _ => OkL.chk c2 (OkL.chk c1 ?_)) fun hc => absurd c1 (of_decide_eq_false hc))
    simp only [Int.toNat_natCast, w64n i (by omega)]
    refine OkL.bind (P := fun b => b = a.getD i dE) ⟨_, keyOfK _, rfl⟩ fun x hx => ?_
    have hxe : x = a[i] := hx.trans (gD a dE i c3)
    have hxa : x ∈ a := by rw [hxe]; exact List.getElem_mem c3
    have htk : ∀ y, y ∈ a.take (i + 1) ↔ y ∈ a.take i ∨ y = x := by
      intro y
      rw [List.take_succ_eq_append_getElem c3, List.mem_append, List.mem_singleton, hxe]
    obtain ⟨w1, w2, w3, w4, w5, w6, w7⟩ := hw x hxa
    simp only [w1, w2, w3, w4, w5, w6, w7, cond_true]
    have hhl : h.length ≤ i := by rw [hp.length_eq]; exact hKl
    by_cases hxK : x ∈ K
    · obtain ⟨h1, h2, h3⟩ := stepOld hinv (by omega) hxK
      refine OkL.chk h1 (OkL.cond (fun hc => absurd (eq_of_beq hc) h2) fun _ => ?_)
      refine ih (i + 1) (stepM es (evL x)) h K (by omega) (by omega) (by omega) h3 (fun y => ?_) hh hp
      rw [htk y, ← hK y]
      exact ⟨.inl, fun h => h.elim id fun e => by rw [e]; exact hxK⟩
    · obtain ⟨h1, h2, h3⟩ := stepNew hinv hxK
      refine OkL.chk h1 (OkL.cond (fun _ => ?_) fun hc => absurd h2 (ne_of_beq_false hc))
      refine OkL.bind (pushOkK x h (by omega) hh) fun b hb => ?_
      refine ih (i + 1) (stepM es (evL x)) b.2.1.1 (K ++ [x]) (by omega) (by omega) (by simp <;> omega) h3 (fun y => ?_) hb.1 (hb.2.trans (List.Perm.append_right _ hp))
      rw [htk y, ← hK y, List.mem_append, List.mem_singleton]

theorem implEventSort (a : List Ev7) (ha : a.length ≤ 1048576) (hw : ∀ x ∈ a, WfE x) : Ok (fun k => impl_EventSort k a) (fun b => Srt b ∧ (∀ y, y ∈ b ↔ y ∈ a) ∧ b.length ≤ a.length) := by
  refine Ok.step (fun k => impl_EventSort_eq k a) ?_
  exact (implLoopE a ha hw _ 0 [] [] [] rfl (by omega) (Nat.le_refl _) ⟨rfl, List.nodup_nil, by simp⟩ (by simp) (fun i h0 h1 => by simp at h1) (List.Perm.refl _)).ok

/-- Both put events into the one order. -/
theorem eventSorts (a : List Ev7) (ha : a.length ≤ 1048576) (hw : ∀ x ∈ a, WfE x) : ∃ s, Ev (fun k => spec_EventSort k a) s ∧ Ev (fun k => impl_EventSort k a) s ∧ Srt s ∧ (∀ y, y ∈ s ↔ y ∈ a) ∧ s.length ≤ a.length := by
  obtain ⟨s, h1, h2, h3, h4⟩ := specEventSort a ha
  obtain ⟨t, h5, h6, h7, h8⟩ := implEventSort a ha hw
  have : t = s := strict_eq h6 h2 fun y => (h7 y).trans (h3 y).symm
  subst this
  exact ⟨t, h1, h5, h2, h3, h4⟩
end Go.Proofs.YtjhldhlmckbapaaGreat.SFnExactHubOuts
