/- The program's EventSort: a map of what came, a heap of what is new. It is the reference's. -/
import Derived.Test.YtjgpacfhokpfdaaKeySortPlFnExactLaneCut
import Derived.Test.YtjgpacfhokpfdaaSx23
set_option linter.unusedVariables false
set_option linter.unusedSimpArgs false
namespace Go.Proofs.Ytjgpacfhokpfdaa.SFnExactLaneCut
open Go Go.Sx Go.Pl
def WfE (x : Ev7) : Prop := (Lit.int .i64 x.1).wf = true ∧ (Lit.int .i64 x.2.1).wf = true ∧ (Lit.int .i64 x.2.2.1).wf = true ∧ (Lit.int .i64 x.2.2.2.1).wf = true ∧ (Lit.int .i64 x.2.2.2.2.1).wf = true ∧ (Lit.int .i64 x.2.2.2.2.2.1).wf = true ∧ (Lit.int .i64 x.2.2.2.2.2.2).wf = true

/-- The map tells of each that came how often it did. -/
structure EsInv (es : List (List Int × Int)) (K : List Ev7) (i : Nat) : Prop where
  keys : es.map (·.1) = K.map evL
  nd : K.Nodup
  cnt : ∀ e ∈ es, 1 ≤ e.2 ∧ e.2 ≤ (i : Int)

theorem keys_nd {K : List Ev7} (h : K.Nodup) : (K.map evL).Nodup := List.pairwise_map.2 (h.imp fun hne e => hne (evL_inj e))

theorem modL {α : Type} (f : α → α) (a : List α) (x : α) : (a ++ [x]).modify a.length f = a ++ [f x] := by
  induction a with
  | nil => rfl
  | cons y a ih => simp [ih]

def stepM (es : List (List Int × Int)) (k : List Int) : List (List Int × Int) := mput (madd es k) (mix es k) (IntKind.i64.wrap (mval es k + 1))

theorem stepNew {es : List (List Int × Int)} {K : List Ev7} {i : Nat} (h : EsInv es K i) {x : Ev7} (hx : x ∉ K) : mix es (evL x) < (madd es (evL x)).length ∧ mval (stepM es (evL x)) (evL x) = 1 ∧ EsInv (stepM es (evL x)) (K ++ [x]) (i + 1) := by
  have hm : mfind es (evL x) 0 = none := mfind_none fun e he hk => hx (by
    have : e.1 ∈ K.map evL := by rw [← h.keys]; exact List.mem_map.2 ⟨e, he, rfl⟩
    obtain ⟨y, hy, he2⟩ := List.mem_map.1 this
    rw [hk] at he2
    rw [← evL_inj he2]; exact hy)
  have e1 : mval es (evL x) = 0 := by unfold mval; rw [hm]
  have e2 : mix es (evL x) = es.length := by unfold mix; rw [hm]
  have e3 : madd es (evL x) = es ++ [(evL x, 0)] := by unfold madd; rw [hm]
  have e4 : stepM es (evL x) = es ++ [(evL x, 1)] := by
    unfold stepM mput
    rw [e1, e2, e3, modL]
    rfl
  have hn : (K ++ [x]).Nodup := by
    rw [List.nodup_append]
    exact ⟨h.nd, by simp, fun a ha b hb => by simp only [List.mem_singleton] at hb; subst hb; exact fun e => hx (e ▸ ha)⟩
  have hk : (es ++ [(evL x, (1 : Int))]).map (·.1) = (K ++ [x]).map evL := by
    rw [List.map_append, List.map_append, h.keys]; rfl
  refine ⟨by rw [e2, e3]; simp, ?_, ?_⟩
  · rw [e4]
    have := mfind_at (k := evL x) (v := 1) (es := es ++ [(evL x, 1)]) (i := 0) (j := es.length) (by rw [hk]; exact keys_nd hn) (by simp)
    unfold mval; rw [this]
  · rw [e4]
    refine ⟨hk, hn, fun e he => ?_⟩
    rcases List.mem_append.1 he with he | he
    · have := h.cnt e he; exact ⟨this.1, by omega⟩
    · simp only [List.mem_singleton] at he
      subst he
      exact ⟨Int.le_refl _, by show (1 : Int) ≤ _; omega⟩

theorem stepOld {es : List (List Int × Int)} {K : List Ev7} {i : Nat} (h : EsInv es K i) (hi : i ≤ 1048576) {x : Ev7} (hx : x ∈ K) : mix es (evL x) < (madd es (evL x)).length ∧ mval (stepM es (evL x)) (evL x) ≠ 1 ∧ EsInv (stepM es (evL x)) K (i + 1) := by
  have hnd : (es.map (·.1)).Nodup := by rw [h.keys]; exact keys_nd h.nd
  have : evL x ∈ es.map (·.1) := by rw [h.keys]; exact List.mem_map.2 ⟨x, hx, rfl⟩
  obtain ⟨⟨k, v⟩, he, hk⟩ := List.mem_map.1 this
  have hk : k = evL x := hk
  subst hk
  obtain ⟨j, hj⟩ := List.mem_iff_getElem?.1 he
  have hjl : j < es.length := (List.getElem?_eq_some_iff.1 hj).1
  have hm := mfind_at (i := 0) hnd hj
  rw [Nat.zero_add] at hm
  obtain ⟨b1, b2⟩ := h.cnt _ he
  have b1 : 1 ≤ v := b1
  have b2 : v ≤ (i : Int) := b2
  have e1 : mval es (evL x) = v := by unfold mval; rw [hm]
  have e2 : mix es (evL x) = j := by unfold mix; rw [hm]
  have e3 : madd es (evL x) = es := by unfold madd; rw [hm]
  have e4 : stepM es (evL x) = mput es j (v + 1) := by
    unfold stepM
    rw [e1, e2, e3, w64 (by omega) (by omega)]
  have e5 : (mput es j (v + 1))[j]? = some (evL x, v + 1) := by
    unfold mput
    rw [List.getElem?_modify, hj]
    simp
  have e6 := mput_keys es j (v + 1)
  refine ⟨by rw [e2, e3]; exact hjl, ?_, ?_⟩
  · rw [e4]
    have := mfind_at (i := 0) (by rw [e6]; exact hnd) e5
    unfold mval
    rw [this]
    show v + 1 ≠ 1
    omega
  · rw [e4]
    refine ⟨by rw [e6]; exact h.keys, h.nd, fun e he => ?_⟩
    obtain ⟨t, ht⟩ := List.mem_iff_getElem?.1 he
    unfold mput at ht
    rw [List.getElem?_modify] at ht
    cases hg : es[t]? with
    | none => rw [hg] at ht; cases ht
    | some e0 =>
      rw [hg] at ht
      simp only [Option.map_some, Option.map_eq_map, Option.some.injEq] at ht
      have c := h.cnt e0 (List.mem_of_getElem? hg)
      split at ht
      · subst ht; show 1 ≤ v + 1 ∧ v + 1 ≤ ((i + 1 : Nat) : Int); omega
      · subst ht; exact ⟨c.1, by omega⟩

theorem keyOfK (x : Ev7) : Ev (fun k => impl_keyOf k x) x := Ev.of 1 fun m => impl_keyOf_eq m x
end Go.Proofs.Ytjgpacfhokpfdaa.SFnExactLaneCut
