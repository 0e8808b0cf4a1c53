/- Maps from rows of numbers to numbers. Any program. -/
import Derived.Test.YtjgpacfhokpfdaaSx22
set_option linter.unusedVariables false
set_option linter.unusedSimpArgs false
namespace Go.Sx
open Go.RowKit Go.MapKept

theorem keyV_inj {a b : List Int} (h : keyV a = keyV b) : a = b := by
  unfold keyV at h
  simp only [Value.agg.injEq] at h
  have h2 := congrArg Array.toList h
  simp only at h2
  exact (List.map_inj_right (fun x y e => by simpa using e)).1 h2
theorem intsOf_rep {w : World} {ρ : Nat → Option Value} {Fz : Nat → Prop} : ∀ {cs : List AC} {ns : List Int} {vs : List Value}, intsOf cs = some ns → All2 (ACRep w ρ Fz) cs vs → vs = ns.map (Value.int .i64)
  | [], ns, vs, h, ha => by
    cases h
    cases vs with
    | nil => rfl
    | cons => exact ha.elim
  | c :: r, ns, vs, h, ha => by
    obtain ⟨v, vs', rfl, h1, h2⟩ := all2_cons ha
    cases c with
    | int k n =>
      cases k <;> simp only [intsOf] at h <;> try (cases h; done)
      split at h
      · rename_i l hl
        cases h
        have h1 : v = .int .i64 n := h1
        rw [h1, intsOf_rep hl h2]; rfl
      · cases h
    | _ => simp [intsOf] at h
theorem wfs_all {ns : List Int} (h : ∀ c ∈ wfs ns, c = true) : ∀ x ∈ ns, (Lit.int .i64 x).wf = true := fun x hx => h _ (List.mem_map.2 ⟨x, hx, rfl⟩)

/-! ### the entries -/
theorem mapR_len {n : Nat} : ∀ {es : List (List Int × Int)} {i : Nat} {ms : List MapEntry}, MapR n es i ms → ms.length = es.length
  | [], _, [], _ => rfl
  | _ :: es, i, _ :: ms, h => by rw [List.length_cons, List.length_cons, mapR_len h.2.2.2]
  | [], _, _ :: _, h => h.elim
  | _ :: _, _, [], h => h.elim
theorem mapR_get {n : Nat} : ∀ {es : List (List Int × Int)} {i j : Nat} {ms : List MapEntry} {m : MapEntry}, MapR n es i ms → ms[j]? = some m → ∃ e, es[j]? = some e ∧ m = { key := keyV e.1, val := .int .i64 e.2, born := i + j } ∧ e.1.length = n ∧ ∀ x ∈ e.1, (Lit.int .i64 x).wf = true
  | [], _, _, [], _, _, hj => by simp at hj
  | e :: es, i, 0, m0 :: ms, m, h, hj => by
    simp only [List.getElem?_cons_zero, Option.some.injEq] at hj
    subst hj
    exact ⟨e, rfl, h.1, h.2.1, h.2.2.1⟩
  | e :: es, i, j + 1, m0 :: ms, m, h, hj => by
    obtain ⟨e', h1, h2, h3⟩ := mapR_get (j := j) h.2.2.2 (by simpa using hj)
    exact ⟨e', by simpa using h1, by rw [h2]; congr 1; omega, h3⟩
  | [], _, _, _ :: _, _, h, _ => h.elim
  | _ :: _, _, _, [], _, h, _ => h.elim
theorem mapR_get' {n : Nat} : ∀ {es : List (List Int × Int)} {i j : Nat} {ms : List MapEntry} {e : List Int × Int}, MapR n es i ms → es[j]? = some e → ms[j]? = some { key := keyV e.1, val := .int .i64 e.2, born := i + j }
  | [], _, _, [], _, _, hj => by simp at hj
  | e0 :: es, i, 0, m0 :: ms, e, h, hj => by
    simp only [List.getElem?_cons_zero, Option.some.injEq] at hj
    subst hj
    rw [h.1]; rfl
  | e0 :: es, i, j + 1, m0 :: ms, e, h, hj => by
    have := mapR_get' (j := j) h.2.2.2 (by simpa using hj)
    rw [List.getElem?_cons_succ, this]
    congr 2; omega
  | [], _, _, _ :: _, _, h, _ => h.elim
  | _ :: _, _, _, [], _, h, _ => h.elim
theorem mapR_push {n : Nat} : ∀ {es : List (List Int × Int)} {i : Nat} {ms : List MapEntry} {k : List Int} {v : Int}, MapR n es i ms → k.length = n → (∀ x ∈ k, (Lit.int .i64 x).wf = true) → MapR n (es ++ [(k, v)]) i (ms ++ [{ key := keyV k, val := .int .i64 v, born := i + es.length }])
  | [], i, [], k, v, _, h1, h2 => ⟨rfl, h1, h2, trivial⟩
  | e :: es, i, m :: ms, k, v, h, h1, h2 => by
    refine ⟨h.1, h.2.1, h.2.2.1, ?_⟩
    have := mapR_push (v := v) h.2.2.2 h1 h2
    rw [List.length_cons, show i + (es.length + 1) = i + 1 + es.length from by omega]
    exact this
  | [], _, _ :: _, _, _, h, _, _ => h.elim
  | _ :: _, _, [], _, _, h, _, _ => h.elim
theorem mapR_put {n : Nat} : ∀ {es : List (List Int × Int)} {i j : Nat} {ms : List MapEntry} {v : Int}, MapR n es i ms → MapR n (mput es j v) i (ms.modify j fun m => { m with val := .int .i64 v })
  | [], i, j, [], v, h => by simp [mput]; exact h
  | e :: es, i, 0, m :: ms, v, h => by
    refine ⟨?_, h.2.1, h.2.2.1, h.2.2.2⟩
    rw [h.1]
  | e :: es, i, j + 1, m :: ms, v, h => ⟨h.1, h.2.1, h.2.2.1, mapR_put h.2.2.2⟩
  | [], _, _, _ :: _, _, h => h.elim
  | _ :: _, _, _, [], _, h => h.elim
theorem mfind_none {k : List Int} : ∀ {es : List (List Int × Int)} {i : Nat}, (∀ e ∈ es, e.1 ≠ k) → mfind es k i = none
  | [], _, _ => rfl
  | e :: es, i, h => by
    unfold mfind
    rw [if_neg (h e List.mem_cons_self)]
    exact mfind_none fun e he => h e (List.mem_cons_of_mem _ he)
theorem mfind_at {k : List Int} {v : Int} : ∀ {es : List (List Int × Int)} {i j : Nat}, (es.map (·.1)).Nodup → es[j]? = some (k, v) → mfind es k i = some (i + j, v)
  | [], _, _, _, h => by simp at h
  | e :: es, i, 0, hn, h => by
    simp only [List.getElem?_cons_zero, Option.some.injEq] at h
    subst h
    unfold mfind
    rw [if_pos rfl]; rfl
  | e :: es, i, j + 1, hn, h => by
    have h : es[j]? = some (k, v) := by simpa using h
    obtain ⟨h1, h2⟩ := List.nodup_cons.1 hn
    unfold mfind
    rw [if_neg (fun he => h1 (List.mem_map.2 ⟨(k, v), List.mem_of_getElem? h, he.symm⟩)), mfind_at h2 h]
    congr 2; omega
theorem mput_keys (es : List (List Int × Int)) (j : Nat) (v : Int) : (mput es j v).map (·.1) = es.map (·.1) := by
  unfold mput
  induction es generalizing j with
  | nil => simp
  | cons e es ih =>
    cases j with
    | zero => rfl
    | succ j => simp only [List.modify_succ_cons, List.map_cons, ih]
theorem born_idx {n : Nat} : ∀ {es : List (List Int × Int)} {i j : Nat} {ms : List MapEntry}, MapR n es i ms → j < es.length → ms.findIdx? (fun e => (e.born : Int) == ((i + j : Nat) : Int)) = some j
  | [], _, _, _, _, h => by simp at h
  | e :: es, i, 0, m :: ms, h, _ => by
    rw [List.findIdx?_cons, h.1]
    simp
  | e :: es, i, j + 1, m :: ms, h, hj => by
    have ih := born_idx (j := j) h.2.2.2 (by simpa using hj)
    rw [List.findIdx?_cons, h.1]
    have h1 : (((i : Nat) : Int) == ((i + (j + 1) : Nat) : Int)) = false := beq_false_of_ne (by omega)
    simp only [h1]
    rw [show i + (j + 1) = i + 1 + j from by omega, ih]
    rfl
  | _ :: _, _, _, [], h, _ => h.elim

section
variable {E : Env} {w0 w w' : World} {T Fz0 Fz U : Nat → Prop} {h hr : Hp} {ρ : Nat → Option Value} {o : Oper} {a : Act}
theorem mapN_some {T n : Nat} (EOK : EnvOk E) (h : mapN E T = some n) : ∃ kt vt, E.P.underlying T = some (.map kt vt) ∧ MapK E.P kt n ∧ E.P.underlying vt = some (.int .i64) ∧ ∃ i, E.P.info? vt = some i ∧ i.zero = some (.int .i64 0) := by
  unfold mapN at h
  split at h
  · rename_i kt vt hu
    split at h
    · rename_i n' t hn ht hv
      obtain ⟨hz, h⟩ := cond_some h
      cases h
      refine ⟨kt, vt, hu, (EOK kt t ht).key _ hn, hv, ?_⟩
      unfold zeroI at hz
      split at hz
      · rename_i i hi
        split at hz
        · rename_i hzz
          exact ⟨i, hi, hzz⟩
        · cases hz
      · cases hz
    · cases h
  · cases h
theorem makeMap_ok (EOK : EnvOk E) (R : RelM w0 T Fz0 U h ρ Fz w) (hsub : ∀ id ob, hr id = some ob → h id = some ob) {next Tt : Nat} {q : SR} (y : el q.τ) (hn : next ∈ (q.upd y).map (·.1) → ¬ U next) (ho : o.op = .makeMap Tt none) (hq : makeMapSR E next Tt = some q) :
    Done E w0 T Fz0 (fun i => U i ∨ i ∈ (q.upd y).map (·.1)) (updF h (q.upd y)) ρ Fz w o a (q.val y) := by
  unfold makeMapSR at hq
  split at hq
  · rename_i n hm
    cases hq
    have hn' : ¬ U next := hn (by simp [SR.now])
    refine weakU' (U := fun i => U i ∨ i = next) ?_ (fun i hi => hi.imp (fun h => h) fun e => by simp [SR.now, e])
    have hexe : (execOp a.eval o).run E.P w = .ok (.value (.map (some w.heap.size))) (w.alloc (.map #[] 0)) := by
      simp [execOp, ho, Instr.makeMap]
    obtain ⟨R', m'⟩ := R.fresh next hn' (.mp Tt n []) (.map #[] 0) (.map (some w.heap.size)) rfl rfl (fun b hb => by cases hb; rfl) ⟨w.heap.size, #[], rfl, heap_alloc_new w _, trivial, List.nodup_nil⟩
    exact ⟨.map (some w.heap.size), _, _, Fz, .inl hexe, R', m', ⟨_, if_pos rfl, rfl, rfl⟩⟩
  · cases hq
/-- A map's block is written. -/
theorem put_map (R : RelM w0 T Fz0 U h ρ Fz w) {id g : Nat} {Tt n : Nat} {es es' : List (List Int × Int)} (hb : h id = some (.mp Tt n es)) (hid : ρ id = some (.map (some g))) {arr arr' : Array MapEntry} {clk : Nat} (hg : w.heap[g]? = some (.map arr clk))
    (hr' : MapR n es' 0 arr'.toList) (hn' : (es'.map (·.1)).Nodup) {val : TV} {v : Value}
    (hexe : (execOp a.eval o).run E.P w = .ok (.value v) { w with heap := w.heap.setIfInBounds g (.map arr' es'.length) } ∨ ((execOp a.eval o).run E.P w = .ok .skip { w with heap := w.heap.setIfInBounds g (.map arr' es'.length) } ∧ v = undef))
    (hval : ∀ w' ρ' Fz', TVRep w' ρ' Fz' val v) : Done E w0 T Fz0 U (updF h [(id, some (.mp Tt n es'))]) ρ Fz w o a val := by
  have hh := heap_set (w := w) (o' := .map arr' es'.length) hg
  have hgr : w.grownBy { w with heap := w.heap.setIfInBounds g (.map arr' es'.length) } (some g) := ⟨rfl, rfl, rfl, by simp, fun k _ hk => hh.2 k fun e => hk (by rw [e])⟩
  have hlive : Live h ρ id g := ⟨_, _, hb, rfl, hid, rfl⟩
  obtain ⟨R', m⟩ := R.put (U' := U) (h' := updF h [(id, some (.mp Tt n es'))]) hgr id (.mp Tt n es') (.map (some g)) rfl rfl
    (fun b hb => by cases hb; exact ⟨id, hlive, .inr rfl⟩) (.inr ⟨_, hid, .inl rfl⟩) (fun b hb => by cases hb; exact .inr ⟨id, hlive, .inr rfl⟩) (fun _ h => h) (R.dom id _ hid).1 (by simp [updF]) (fun k ob hk hob => by simpa [updF, hk] using hob)
    ⟨g, arr', rfl, hh.1, hr', hn'⟩
  exact ⟨_, _, _, Fz, hexe, R', m, hval _ _ _⟩
theorem mp_rep (R : RelM w0 T Fz0 U h ρ Fz w) (hsub : ∀ id ob, hr id = some ob → h id = some ob) {id Tt n : Nat} {es : List (List Int × Int)} {x : Operand} {m : TV} (hm : m = .v (.one (.o id))) (hx : TVRep w ρ Fz m (a.eval x)) (hb : hr id = some (.mp Tt n es)) :
    ∃ g arr, a.eval x = .map (some g) ∧ ρ id = some (.map (some g)) ∧ w.heap[g]? = some (.map arr es.length) ∧ MapR n es 0 arr.toList ∧ (es.map (·.1)).Nodup := by
  subst hm
  obtain ⟨u, hid, ⟨g, arr, rfl, hg, h1, h2⟩, hgv⟩ := R.oRep (hsub id _ hb) hx
  exact ⟨g, arr, hgv.symm, hid, hg, h1, h2⟩
theorem key_rep {n : Nat} {cs : List AC} {ns : List Int} {x : Operand} {k : TV} (hk : k = .v (.agg cs)) (hx : TVRep w ρ Fz k (a.eval x)) (hi : intsOf cs = some ns) : a.eval x = keyV ns := by
  subst hk
  obtain ⟨cv, he, hc⟩ := (hx : ∃ cv, a.eval x = .agg cv ∧ All2 (ACRep w ρ Fz) cs cv.toList)
  have := intsOf_rep hi hc
  rw [he]
  unfold keyV
  rw [← this]
/-- What is found. -/
theorem find_rep {kt n : Nat} (K : MapK E.P kt n) {es : List (List Int × Int)} {arr : Array MapEntry} (hm : MapR n es 0 arr.toList) (hn : (es.map (·.1)).Nodup) {ns : List Int} (hl : ns.length = n) (hw : ∀ x ∈ ns, (Lit.int .i64 x).wf = true) :
    ((Instr.findKey kt (keyV ns) arr.toList).run E.P w = .ok none w ∧ mfind es ns 0 = none ∧ ∀ e ∈ es, e.1 ≠ ns) ∨
    ∃ j v, (Instr.findKey kt (keyV ns) arr.toList).run E.P w = .ok (some (j, .int .i64 v)) w ∧ es[j]? = some (ns, v) ∧ arr[j]? = some { key := keyV ns, val := .int .i64 v, born := j } ∧ mfind es ns 0 = some (j, v) := by
  obtain ⟨lx, hlx⟩ := K.lits ns hl hw
  have hkeys : ∀ e ∈ arr.toList, ∃ l, keyOf E.P kt e.key = some l := by
    intro e he
    obtain ⟨j, hj⟩ := List.mem_iff_getElem?.1 he
    obtain ⟨e', _, rfl, h2, h3⟩ := mapR_get hm hj
    exact K.lits e'.1 h2 h3
  rcases K.law.find w hlx arr.toList hkeys with ⟨h1, h2⟩ | ⟨j, e, h1, h2, h3⟩
  · have hne : ∀ e ∈ es, e.1 ≠ ns := by
      intro e he hee
      obtain ⟨j, hj⟩ := List.mem_iff_getElem?.1 he
      have := mapR_get' hm hj
      exact h2 _ (List.mem_of_getElem? this) (by rw [hee])
    exact .inl ⟨h1, mfind_none hne, hne⟩
  · obtain ⟨e', h4, rfl, _⟩ := mapR_get hm h2
    have hk : e'.1 = ns := keyV_inj h3
    obtain ⟨k', v⟩ := e'
    simp only at hk
    subst hk
    refine .inr ⟨j, v, h1, h4, ?_, ?_⟩
    · have := h2
      rw [Nat.zero_add] at this
      simpa using this
    · rw [mfind_at hn h4, Nat.zero_add]
theorem zero_run {vt : Nat} {i : TypeInfo} (hi : E.P.info? vt = some i) (hz : i.zero = some (.int .i64 0)) : (zeroValue vt).run E.P w = .ok (.int .i64 0) w := by
  simp [zeroValue, typeInfo, hi, hz]
theorem mapEntry_ok (EOK : EnvOk E) (R : RelM w0 T Fz0 U h ρ Fz w) (hsub : ∀ id ob, hr id = some ob → h id = some ob) {Tt : Nat} {m k : Operand} {mv kv : TV} {q : SR} (y : el q.τ) (ho : o.op = .mapEntry Tt m k) (hm : TVRep w ρ Fz mv (a.eval m)) (hk : TVRep w ρ Fz kv (a.eval k)) (hq : mapEntrySR E hr Tt mv kv = some q) (hc : ∀ c ∈ q.conds, c = true) :
    Done E w0 T Fz0 (fun i => U i ∨ i ∈ (q.upd y).map (·.1)) (updF h (q.upd y)) ρ Fz w o a (q.val y) := by
  unfold mapEntrySR at hq
  split at hq
  · rename_i id cs
    split at hq
    · rename_i T' n es ns n' hb hi hn
      obtain ⟨hcnd, hq⟩ := cond_some hq
      cases hq
      simp only [Bool.and_eq_true] at hcnd
      have hT := Nat.eq_of_beq_eq_true hcnd.1
      have hnn := Nat.eq_of_beq_eq_true hcnd.2.1
      have hlen := Nat.eq_of_beq_eq_true hcnd.2.2
      subst hT hnn
      have hw := wfs_all hc
      obtain ⟨kt, vt, hu, K, hvt, i, hvi, hvz⟩ := mapN_some EOK hn
      obtain ⟨g, arr, hx, hid, hg, hmr, hnd⟩ := mp_rep R hsub rfl hm hb
      have hkx := key_rep (n := n) rfl hk hi
      obtain ⟨lx, hlx⟩ := K.lits ns hlen hw
      have hchk := K.law.check w false hlx
      refine weakU' (U := U) ?_ fun i hi => .inl hi
      rcases find_rep (w := w) K hmr hnd hlen hw with ⟨h1, h2, h3⟩ | ⟨j, v, h1, h2, h3, h4⟩
      · have e1 : mval es ns = 0 := by unfold mval; rw [h2]
        have e2 : mix es ns = es.length := by unfold mix; rw [h2]
        have e3 : madd es ns = es ++ [(ns, 0)] := by unfold madd; rw [h2]
        show Done E w0 T Fz0 U (updF h [(id, some (.mp Tt n (madd es ns)))]) ρ Fz w o a (.tup [.one (.int .i64 (mval es ns)), .one (.int .i64 (mix es ns : Int))])
        rw [e1, e2, e3]
        refine put_map (v := .tuple #[.int .i64 0, .int .i64 (es.length : Int)]) (arr' := arr.push { key := keyV ns, val := .int .i64 0, born := es.length }) R (hsub id _ hb) hid hg ?_ ?_ (.inl ?_) fun _ _ _ => ⟨_, rfl, rfl, rfl, trivial⟩
        · have := mapR_push (v := 0) hmr hlen hw
          rw [Nat.zero_add] at this
          simpa using this
        · rw [List.map_append, List.nodup_append]
          refine ⟨hnd, by simp, fun x hx y hy => ?_⟩
          obtain ⟨e, he, rfl⟩ := List.mem_map.1 hx
          simp only [List.map_cons, List.map_nil, List.mem_singleton] at hy
          subst hy
          exact h3 e he
        · simp [execOp, ho, hx, hkx, Instr.mapEntry, run_underlying hu, MapKept.run_getObj_map hg, hchk, h1, zero_run hvi hvz, MapKept.run_setObj_map _ hg, Result.andThen, goInt]
      · have e1 : mval es ns = v := by unfold mval; rw [h4]
        have e2 : mix es ns = j := by unfold mix; rw [h4]
        have e3 : madd es ns = es := by unfold madd; rw [h4]
        show Done E w0 T Fz0 U (updF h [(id, some (.mp Tt n (madd es ns)))]) ρ Fz w o a (.tup [.one (.int .i64 (mval es ns)), .one (.int .i64 (mix es ns : Int))])
        rw [e1, e2, e3]
        have hjl : j < arr.size := (Array.getElem?_eq_some_iff.1 h3).1
        have hmod : (arr.modify j fun e => { e with key := keyV ns }) = arr := by
          apply Array.ext_getElem?
          intro t
          rw [Array.getElem?_modify]
          by_cases ht : j = t
          · subst ht
            rw [if_pos rfl, h3]; rfl
          · rw [if_neg ht]
        refine put_map (v := .tuple #[.int .i64 v, .int .i64 (j : Int)]) (arr' := arr) R (hsub id _ hb) hid hg hmr hnd (.inl ?_) fun _ _ _ => ⟨_, rfl, rfl, rfl, trivial⟩
        have hst := K.law.stays w hlx
        simp [execOp, ho, hx, hkx, Instr.mapEntry, run_underlying hu, MapKept.run_getObj_map hg, hchk, h1, h3, hst, hmod, MapKept.run_setObj_map _ hg, Result.andThen, goInt]
    · cases hq
  · cases hq
theorem entryStore_ok (EOK : EnvOk E) (R : RelM w0 T Fz0 U h ρ Fz w) (hsub : ∀ id ob, hr id = some ob → h id = some ob) {Tt : Nat} {m s x : Operand} {mv sv xv : TV} {q : SR} (y : el q.τ) (ho : o.op = .entryStore Tt m s x) (hm : TVRep w ρ Fz mv (a.eval m)) (hs : TVRep w ρ Fz sv (a.eval s)) (hx : TVRep w ρ Fz xv (a.eval x)) (hq : entryStoreSR hr mv sv xv = some q) (hc : ∀ c ∈ q.conds, c = true) :
    Done E w0 T Fz0 (fun i => U i ∨ i ∈ (q.upd y).map (·.1)) (updF h (q.upd y)) ρ Fz w o a (q.val y) := by
  unfold entryStoreSR at hq
  split at hq
  · rename_i id i v
    split at hq
    · rename_i T' n es hb
      cases hq
      have c1 := of_decide_eq_true (hc (decide (0 ≤ i)) (by simp [SR.now]))
      have c2 := of_decide_eq_true (hc (decide (i.toNat < es.length)) (by simp [SR.now]))
      obtain ⟨g, arr, hmx, hid, hg, hmr, hnd⟩ := mp_rep R hsub rfl hm hb
      have hs : a.eval s = .int .i64 i := hs
      have hx : a.eval x = .int .i64 v := hx
      obtain ⟨j, rfl⟩ : ∃ j : Nat, i = j := ⟨i.toNat, (Int.toNat_of_nonneg c1).symm⟩
      have c2 : j < es.length := by simpa using c2
      refine weakU' (U := U) ?_ fun i hi => .inl hi
      show Done E w0 T Fz0 U (updF h [(id, some (.mp T' n (mput es (j : Int).toNat v)))]) ρ Fz w o a (.tup [])
      rw [Int.toNat_natCast]
      have hlen : (mput es j v).length = es.length := by unfold mput; simp
      have hbi := born_idx hmr c2
      rw [Nat.zero_add] at hbi
      have hfi : arr.findIdx? (fun e => (e.born : Int) == (j : Int)) = some j := by
        have e := List.findIdx?_toArray (l := arr.toList) (p := fun e : MapEntry => (e.born : Int) == (j : Int))
        rw [Array.toArray_toList] at e
        rw [e]; exact hbi
      refine put_map (v := undef) (arr' := arr.modify j fun e => { e with val := .int .i64 v }) R (hsub id _ hb) hid hg ?_ (by rw [mput_keys]; exact hnd) (.inr ⟨?_, rfl⟩) fun _ _ _ => ⟨#[], rfl, trivial⟩
      · rw [Array.toList_modify]; exact mapR_put hmr
      · rw [hlen]
        simp [execOp, ho, hmx, hs, hx, Instr.entryStore, MapKept.run_getObj_map hg, asInt, asIntOf, hfi, MapKept.run_setObj_map _ hg, Result.andThen]
    · cases hq
  · cases hq
theorem lookup_ok (EOK : EnvOk E) (R : RelM w0 T Fz0 U h ρ Fz w) (hsub : ∀ id ob, hr id = some ob → h id = some ob) {Tt : Nat} {m k : Operand} {mv kv : TV} {q : SR} (y : el q.τ) (ho : o.op = .lookup Tt m k false) (hm : TVRep w ρ Fz mv (a.eval m)) (hk : TVRep w ρ Fz kv (a.eval k)) (hq : lookupSR E hr Tt mv kv = some q) (hc : ∀ c ∈ q.conds, c = true) :
    Done E w0 T Fz0 (fun i => U i ∨ i ∈ (q.upd y).map (·.1)) (updF h (q.upd y)) ρ Fz w o a (q.val y) := by
  unfold lookupSR at hq
  split at hq
  · rename_i id cs
    split at hq
    · rename_i T' n es ns n' hb hi hn
      obtain ⟨hcnd, hq⟩ := cond_some hq
      cases hq
      simp only [Bool.and_eq_true] at hcnd
      have hT := Nat.eq_of_beq_eq_true hcnd.1
      have hnn := Nat.eq_of_beq_eq_true hcnd.2.1
      have hlen := Nat.eq_of_beq_eq_true hcnd.2.2
      subst hT hnn
      have hw := wfs_all hc
      obtain ⟨kt, vt, hu, K, hvt, i, hvi, hvz⟩ := mapN_some EOK hn
      obtain ⟨g, arr, hx, hid, hg, hmr, hnd⟩ := mp_rep R hsub rfl hm hb
      have hkx := key_rep (n := n) rfl hk hi
      obtain ⟨lx, hlx⟩ := K.lits ns hlen hw
      have hchk := K.law.check w arr.isEmpty hlx
      refine weakU' (U := U) ?_ fun i hi => .inl hi
      show Done E w0 T Fz0 U (updF h []) ρ Fz w o a (.c (.int .i64 (mval es ns)))
      rcases find_rep (w := w) K hmr hnd hlen hw with ⟨h1, h2, h3⟩ | ⟨j, v, h1, h2, h3, h4⟩
      · have e1 : mval es ns = 0 := by unfold mval; rw [h2]
        rw [e1]
        refine Done.same R (v := .int .i64 0) ?_ rfl
        simp [execOp, ho, hx, hkx, Instr.lookup, run_underlying hu, MapKept.run_getObj_map hg, hchk, h1, zero_run hvi hvz, Result.andThen]
      · have e1 : mval es ns = v := by unfold mval; rw [h4]
        rw [e1]
        refine Done.same R (v := .int .i64 v) ?_ rfl
        simp [execOp, ho, hx, hkx, Instr.lookup, run_underlying hu, MapKept.run_getObj_map hg, hchk, h1, Result.andThen]
    · cases hq
  · cases hq
end
end Go.Sx
