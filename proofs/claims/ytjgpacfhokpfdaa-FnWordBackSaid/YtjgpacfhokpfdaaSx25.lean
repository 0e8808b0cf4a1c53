/- Maps from numbers to what is read; copying over a row. Any program. -/
import Derived.Test.YtjgpacfhokpfdaaSx23
set_option linter.unusedVariables false
set_option linter.unusedSimpArgs false
namespace Go.Sx
open Go.RowKit Go.MapKept

theorem apart_one {id : Nat} : ∀ {cs : List AC}, apartC [id] cs = true → id ∉ oIds cs
  | [], _ => by simp [oIds]
  | c :: r, h => by
    cases c <;> simp only [apartC, oIds] at h ⊢ <;> try exact apart_one h
    simp only [Bool.and_eq_true] at h
    intro hm
    rcases List.mem_cons.1 hm with hm | hm
    · subst hm; simp at h
    · exact apart_one h.2 hm
/-! ### the entries -/
section
variable {α : Type} {K : α → Value → Prop}
theorem mqE_len : ∀ {es : List (Int × α)} {ms : List MapEntry}, MqE K es ms → ms.length = es.length
  | [], [], _ => rfl
  | _ :: es, _ :: ms, h => by rw [List.length_cons, List.length_cons, mqE_len h.2.2.2]
  | [], _ :: _, h => h.elim
  | _ :: _, [], h => h.elim
theorem mqE_get : ∀ {es : List (Int × α)} {j : Nat} {ms : List MapEntry} {m : MapEntry}, MqE K es ms → ms[j]? = some m → ∃ e, es[j]? = some e ∧ m.key = .int .i64 e.1 ∧ (Lit.int .i64 e.1).wf = true ∧ K e.2 m.val
  | [], _, [], _, _, hj => by simp at hj
  | e :: es, 0, m0 :: ms, m, h, hj => by
    simp only [List.getElem?_cons_zero, Option.some.injEq] at hj
    subst hj
    exact ⟨e, rfl, h.1, h.2.1, h.2.2.1⟩
  | e :: es, j + 1, m0 :: ms, m, h, hj => by
    obtain ⟨e', h1, h2⟩ := mqE_get (j := j) h.2.2.2 (by simpa using hj)
    exact ⟨e', by simpa using h1, h2⟩
  | [], _, _ :: _, _, h, _ => h.elim
  | _ :: _, _, [], _, h, _ => h.elim
theorem mqE_get' : ∀ {es : List (Int × α)} {ms : List MapEntry} {e : Int × α}, MqE K es ms → e ∈ es → ∃ m ∈ ms, m.key = .int .i64 e.1
  | [], _, _, _, he => by cases he
  | e0 :: es, m0 :: ms, e, h, he => by
    rcases List.mem_cons.1 he with rfl | he
    · exact ⟨m0, List.mem_cons_self, h.1⟩
    · obtain ⟨m, hm, hk⟩ := mqE_get' h.2.2.2 he
      exact ⟨m, List.mem_cons_of_mem _ hm, hk⟩
  | _ :: _, [], _, h, _ => h.elim
theorem mqE_push : ∀ {es : List (Int × α)} {ms : List MapEntry} {k : Int} {v : α} {m : MapEntry}, MqE K es ms → m.key = .int .i64 k → (Lit.int .i64 k).wf = true → K v m.val → MqE K (es ++ [(k, v)]) (ms ++ [m])
  | [], [], _, _, _, _, h1, h2, h3 => ⟨h1, h2, h3, trivial⟩
  | e :: es, m0 :: ms, _, _, _, h, h1, h2, h3 => ⟨h.1, h.2.1, h.2.2.1, mqE_push h.2.2.2 h1 h2 h3⟩
  | [], _ :: _, _, _, _, h, _, _, _ => h.elim
  | _ :: _, [], _, _, _, h, _, _, _ => h.elim
theorem mqput_new : ∀ {es : List (Int × α)} {k : Int} {v : α}, (∀ e ∈ es, e.1 ≠ k) → mqput es k v = es ++ [(k, v)]
  | [], _, _, _ => rfl
  | e :: es, k, v, h => by
    have h1 : (e.1 == k) = false := beq_false_of_ne (h e List.mem_cons_self)
    simp only [mqput, h1, cond_false, List.cons_append, mqput_new fun e he => h e (List.mem_cons_of_mem _ he)]
theorem mqput_keys : ∀ {es : List (Int × α)} {k : Int} {v : α}, k ∈ es.map (·.1) → (mqput es k v).map (·.1) = es.map (·.1)
  | [], _, _, h => by cases h
  | e :: es, k, v, h => by
    by_cases hk : e.1 = k
    · have h1 : (e.1 == k) = true := by simpa using hk
      have h2 : mqput (e :: es) k v = (k, v) :: es := by simp only [mqput, h1, cond_true]
      rw [h2, List.map_cons, List.map_cons, hk]
    · have h1 : (e.1 == k) = false := beq_false_of_ne hk
      simp only [mqput, h1, cond_false, List.map_cons]
      rw [mqput_keys (by rcases List.mem_cons.1 h with h | h; exact absurd h.symm hk; exact h)]
theorem mqE_put : ∀ {es : List (Int × α)} {ms : List MapEntry} {k : Int} {v : α} {j : Nat} {m : MapEntry} {u : Value}, MqE K es ms → (es.map (·.1)).Nodup → ms[j]? = some m → m.key = .int .i64 k → K v u → MqE K (mqput es k v) (ms.modify j fun e => { e with key := .int .i64 k, val := u })
  | [], [], _, _, _, _, _, _, _, hj, _, _ => by simp at hj
  | e :: es, m0 :: ms, k, v, 0, m, u, h, hn, hj, hk, hu => by
    simp only [List.getElem?_cons_zero, Option.some.injEq] at hj
    subst hj
    have he : e.1 = k := by have := h.1; rw [hk] at this; simpa using this.symm
    have h1 : (e.1 == k) = true := by simpa using he
    simp only [mqput, h1, cond_true]
    exact ⟨rfl, he ▸ h.2.1, hu, h.2.2.2⟩
  | e :: es, m0 :: ms, k, v, j + 1, m, u, h, hn, hj, hk, hu => by
    have hj : ms[j]? = some m := by simpa using hj
    obtain ⟨hn1, hn2⟩ := List.nodup_cons.1 hn
    obtain ⟨e', he', hk', _⟩ := mqE_get h.2.2.2 hj
    have hkk : e'.1 = k := by rw [hk] at hk'; simpa using hk'.symm
    have hne : e.1 ≠ k := fun hee => hn1 (List.mem_map.2 ⟨e', List.mem_of_getElem? he', hkk.trans hee.symm⟩)
    have h1 : (e.1 == k) = false := beq_false_of_ne hne
    simp only [mqput, h1, cond_false]
    exact ⟨h.1, h.2.1, h.2.2.1, mqE_put h.2.2.2 hn2 hj hk hu⟩
  | [], _ :: _, _, _, _, _, _, h, _, _, _, _ => h.elim
  | _ :: _, [], _, _, _, _, _, h, _, _, _, _ => h.elim
theorem mqget_none {es : List (Int × α)} {k : Int} {d : α} (h : ∀ e ∈ es, e.1 ≠ k) : mqget es k d = d := by
  unfold mqget
  rw [List.find?_eq_none.2 fun e he => by simpa using h e he]
theorem mqget_at : ∀ {es : List (Int × α)} {k : Int} {d : α} {j : Nat} {e : Int × α}, (es.map (·.1)).Nodup → es[j]? = some e → e.1 = k → mqget es k d = e.2
  | [], _, _, _, _, _, hj, _ => by simp at hj
  | e0 :: es, k, d, 0, e, hn, hj, hk => by
    simp only [List.getElem?_cons_zero, Option.some.injEq] at hj
    subst hj
    have h1 : (e0.1 == k) = true := by simpa using hk
    unfold mqget
    rw [List.find?_cons, h1]
  | e0 :: es, k, d, j + 1, e, hn, hj, hk => by
    have hj : es[j]? = some e := by simpa using hj
    obtain ⟨h1, h2⟩ := List.nodup_cons.1 hn
    have hne : e0.1 ≠ k := fun hee => h1 (List.mem_map.2 ⟨e, List.mem_of_getElem? hj, hk.trans hee.symm⟩)
    have hb : (e0.1 == k) = false := beq_false_of_ne hne
    have ih := mqget_at (d := d) h2 hj hk
    unfold mqget at ih ⊢
    rw [List.find?_cons, hb]
    exact ih
end

section
variable {E : Env} {w0 w w' : World} {T Fz0 Fz U : Nat → Prop} {h hr : Hp} {ρ : Nat → Option Value} {o : Oper} {a : Act}
theorem mqT_some {T vt : Nat} {t : Ty} (h : mqT E T = some (vt, t)) : ∃ kt, E.P.underlying T = some (.map kt vt) ∧ E.P.underlying kt = some (.int .i64) ∧ assoc E.tys vt = some t ∧ ∃ i z, E.P.info? vt = some i ∧ i.zero = some z ∧ ((isAg t = true ∧ ∃ c, z = .agg c) ∨ (isAg t = false ∧ ∀ c, z ≠ .agg c)) := by
  unfold mqT at h
  split at h
  · rename_i kt vt' hu
    split at h
    · rename_i t' i hk ht hi
      split at h
      · rename_i c hz
        obtain ⟨hag, h⟩ := cond_some h
        cases h
        exact ⟨kt, hu, hk, ht, i, _, hi, hz, .inl ⟨hag, _, rfl⟩⟩
      · rename_i z hne hz
        cases hag : isAg t' with
        | true => rw [hag] at h; cases h
        | false =>
          rw [hag] at h
          cases h
          exact ⟨kt, hu, hk, ht, i, _, hi, hz, .inr ⟨hag, fun c hc => hne c (by rw [hc])⟩⟩
      · cases h
    · cases h
  · cases h
theorem makeMq_ok (R : RelM w0 T Fz0 U h ρ Fz w) {next Tt : Nat} {q : SR} (y : el q.τ) (hn : next ∈ (q.upd y).map (·.1) → ¬ U next) (ho : o.op = .makeMap Tt none) (hq : makeMqSR E next Tt = some q) :
    Done E w0 T Fz0 (fun i => U i ∨ i ∈ (q.upd y).map (·.1)) (updF h (q.upd y)) ρ Fz w o a (q.val y) := by
  unfold makeMqSR at hq
  split at hq
  · rename_i vt t hm
    cases hq
    have hn' : ¬ U next := hn (by simp [SR.now])
    refine weakU' (U := fun i => U i ∨ i = next) ?_ (fun i hi => hi.imp (fun h => h) fun e => by simp [SR.now, e])
    have hexe : (execOp a.eval o).run E.P w = .ok (.value (.map (some w.heap.size))) (w.alloc (.map #[] 0)) := by
      simp [execOp, ho, Instr.makeMap]
    obtain ⟨R', m'⟩ := R.fresh next hn' (.mq Tt t []) (.map #[] 0) (.map (some w.heap.size)) rfl rfl (fun b hb => by cases hb; rfl) ⟨w.heap.size, rfl, #[], 0, heap_alloc_new w _, trivial, List.nodup_nil⟩
    exact ⟨.map (some w.heap.size), _, _, Fz, .inl hexe, R', m', ⟨_, if_pos rfl, rfl, rfl⟩⟩
  · cases hq
theorem mqfind {kt : Nat} (hk : E.P.underlying kt = some (.int .i64)) {α : Type} {K : α → Value → Prop} {es : List (Int × α)} {arr : Array MapEntry} (hm : MqE K es arr.toList) {n : Int} (hw : (Lit.int .i64 n).wf = true) :
    ((Instr.findKey kt (.int .i64 n) arr.toList).run E.P w = .ok none w ∧ ∀ e ∈ es, e.1 ≠ n) ∨
    ∃ j e m, (Instr.findKey kt (.int .i64 n) arr.toList).run E.P w = .ok (some (j, m.val)) w ∧ es[j]? = some e ∧ e.1 = n ∧ arr[j]? = some m ∧ m.key = .int .i64 n ∧ K e.2 m.val := by
  have L := Maps.int_keyed hk
  have hlx := Maps.keyOf_int_mk hk hw
  have hkeys : ∀ e ∈ arr.toList, ∃ l, keyOf E.P kt e.key = some l := by
    intro e he
    obtain ⟨j, hj⟩ := List.mem_iff_getElem?.1 he
    obtain ⟨e', _, h1, h2, _⟩ := mqE_get hm hj
    rw [h1]
    exact ⟨_, Maps.keyOf_int_mk hk h2⟩
  rcases L.find w hlx arr.toList hkeys with ⟨h1, h2⟩ | ⟨j, e, h1, h2, h3⟩
  · refine .inl ⟨h1, fun e he hee => ?_⟩
    obtain ⟨m, hm2, hmk⟩ := mqE_get' hm he
    exact h2 m hm2 (by rw [hmk, hee])
  · obtain ⟨e', h4, h5, h6, h7⟩ := mqE_get hm h2
    have : e'.1 = n := by rw [h3] at h5; simpa using h5.symm
    exact .inr ⟨j, e', e, h1, h4, this, by simpa using h2, h3, h7⟩
theorem form1 {t : Ty} {a : AV} (h : formsOk1 t a = true) {v : Value} (hv : AVRep w ρ Fz a v) (h1 : ∀ c, a = .one c → v.oneCell' = true) : OneV (isAg t) v v.cells.toList := by
  cases a with
  | agg cs =>
    obtain ⟨cv, rfl, _⟩ := hv
    simp only [formsOk1, Bool.and_eq_true] at h
    exact .inl ⟨h.1, by simp [Value.cells]⟩
  | one c =>
    simp only [formsOk1, Bool.and_eq_true] at h
    exact .inr ⟨by simpa using h.1, by rw [one_cells (h1 c rfl)]⟩
theorem mapUpdate_ok (EOK : EnvOk E) (R : RelM w0 T Fz0 U h ρ Fz w) (hsub : ∀ id ob, hr id = some ob → h id = some ob) {Tt : Nat} {m k x : Operand} {mv kv xv : TV} {q : SR} (y : el q.τ) (ho : o.op = .mapUpdate Tt m k x) (hm : TVRep w ρ Fz mv (a.eval m)) (hk : TVRep w ρ Fz kv (a.eval k)) (hx : TVRep w ρ Fz xv (a.eval x)) (hq : mapUpdateSR E hr Tt mv kv xv = some q) (hc : ∀ c ∈ q.conds, c = true) :
    Done E w0 T Fz0 (fun i => U i ∨ i ∈ (q.upd y).map (·.1)) (updF h (q.upd y)) ρ Fz w o a (q.val y) := by
  unfold mapUpdateSR at hq
  split at hq
  · rename_i id n av
    split at hq
    · rename_i T' t es vt t' hb hmt
      split at hq
      · rename_i z es' hd hes
        obtain ⟨hcnd, hq⟩ := cond_some hq
        cases hq
        have := mqas_some hes
        cases this
        simp only [Bool.and_eq_true, Bool.not_eq_true'] at hcnd
        obtain ⟨⟨hform, hap⟩, hu⟩ := hcnd
        have hwf : (Lit.int .i64 n).wf = true := hc _ (by simp [SR.now, wfs])
        obtain ⟨kt, hut, huk, hty, _⟩ := mqT_some hmt
        have ok := EOK vt t hty
        have hrd := ok.rd
        obtain ⟨Fz', R1, m1, hfz, hfz2⟩ := frz_ok R hsub av.cells
        have hap' : id ∉ oIds av.cells := apart_one hap
        have hb0 := hsub id _ hb
        have hb1 : updF h (frz hr av.cells) id = some (.mq Tt t es) := by
          rw [updF_not _ _ _ (fun hm => by obtain ⟨p, hp, rfl⟩ := List.mem_map.1 hm; exact hap' (frz_mem hr av.cells p hp).1)]
          exact hb0
        obtain ⟨pv, hpv, g, rfl, arr, clk, hg, hme, hnd⟩ := R1.objs id _ hb1
        have hmx : a.eval m = .map (some g) := by
          obtain ⟨u, hid, hgv, _⟩ := hm
          rw [hpv] at hid
          cases hid
          exact hgv.symm
        have hkx : a.eval k = .int .i64 n := hk
        have hyc := AV_cells' R hx hu
        have hone : ∀ c, av = .one c → (a.eval x).oneCell' = true := by
          rintro c rfl
          exact ACRep_one hx (by simpa [AV.cells] using hu) (R_one R)
        have hof := form1 hform hx hone
        have hk2 := KO_KI hrd (decAll_KO (Fz' := Fz') (R.less hsub) m1.fz hd hyc (fun k hk b hl => hfz2 k ((owIds_sub _ t _ hrd).1 k hk) b hl) (fun k hk => by rw [fzIds_rdo _ t _ hrd] at hk; cases hk)).1
        have hK : ∃ c, OneV (isAg t) (a.eval x) c ∧ KI w Fz' t z c := ⟨_, hof, hk2⟩
        refine weakU' (U := U) ?_ fun i hi => .inl hi
        show Done E w0 T Fz0 U (updF h (frz hr av.cells ++ [(id, some (.mq Tt t (mqput es n z)))])) ρ Fz w o a (.tup [])
        have hlive : Live (updF h (frz hr av.cells)) ρ id g := ⟨_, _, hb1, rfl, hpv, rfl⟩
        have hnfz : ¬ Fz' g := (R1.mt id g hlive).1
        have L := Maps.int_keyed huk
        have hlx := Maps.keyOf_int_mk huk hwf
        have hchk := L.check w false hlx
        have put : ∀ (arr' : Array MapEntry) (clk' : Nat), MqE (fun x v => ∃ c, OneV (isAg t) v c ∧ KI w Fz' t x c) (mqput es n z) arr'.toList → ((mqput es n z).map (·.1)).Nodup →
            (execOp a.eval o).run E.P w = .ok .skip { w with heap := w.heap.setIfInBounds g (.map arr' clk') } → Done E w0 T Fz0 U (updF h (frz hr av.cells ++ [(id, some (.mq Tt t (mqput es n z)))])) ρ Fz w o a (.tup []) := by
          intro arr' clk' hme' hnd' hexe
          have hh := heap_set (w := w) (o' := .map arr' clk') hg
          have hgr : w.grownBy { w with heap := w.heap.setIfInBounds g (.map arr' clk') } (some g) := ⟨rfl, rfl, rfl, by simp, fun k _ hk => hh.2 k fun e => hk (by rw [e])⟩
          have hwd : ∀ b, Fz' b → ({ w with heap := w.heap.setIfInBounds g (.map arr' clk') } : World).heap[b]? = w.heap[b]? := fun b hb => hh.2 b fun e => hnfz (e ▸ hb)
          obtain ⟨R', m⟩ := R1.put (U' := U) (h' := updF (updF h (frz hr av.cells)) [(id, some (.mq Tt t (mqput es n z)))]) hgr id (.mq Tt t (mqput es n z)) (.map (some g)) rfl rfl
            (fun b hb => by cases hb; exact ⟨id, hlive, .inr rfl⟩) (.inr ⟨_, hpv, .inl rfl⟩) (fun b hb => by cases hb; exact .inr ⟨id, hlive, .inr rfl⟩) (fun _ h => h) (R1.dom id _ hpv).1 (by simp [updF]) (fun k ob hk hob => by simpa [updF, hk] using hob)
            ⟨g, rfl, arr', clk', hh.1, MqE_imp (fun e _ v ⟨c, ho, hk⟩ => ⟨c, ho, KI_mono (t := t) (fun _ h => h) hwd hk⟩) hme', hnd'⟩
          exact ⟨undef, _, _, Fz', .inr ⟨hexe, rfl⟩, by rw [updF_app]; exact R', m1.trans m, ⟨#[], rfl, trivial⟩⟩
        rcases mqfind (w := w) huk hme hwf with ⟨h1, h2⟩ | ⟨j, e, me, h1, h2, h3, h4, h5, h6⟩
        · refine put (arr.push { key := .int .i64 n, val := a.eval x, born := clk }) (clk + 1) ?_ ?_ ?_
          · rw [mqput_new h2]
            have := mqE_push (m := { key := .int .i64 n, val := a.eval x, born := clk }) hme rfl hwf hK
            simpa using this
          · rw [mqput_new h2, List.map_append, List.nodup_append]
            refine ⟨hnd, by simp, fun x hx y hy => ?_⟩
            obtain ⟨e, he, rfl⟩ := List.mem_map.1 hx
            simp only [List.map_cons, List.map_nil, List.mem_singleton] at hy
            subst hy
            exact h2 e he
          · simp [execOp, ho, hmx, hkx, Instr.mapUpdate, run_underlying hut, MapKept.run_getObj_map hg, hchk, h1, MapKept.run_setObj_map _ hg, Result.andThen]
        · have hst := L.stays w hlx
          refine put (arr.modify j fun e => { e with key := .int .i64 n, val := a.eval x }) clk ?_ ?_ ?_
          · rw [Array.toList_modify]
            exact mqE_put hme hnd (by simpa using h4) h5 hK
          · rw [mqput_keys (List.mem_map.2 ⟨e, List.mem_of_getElem? h2, h3⟩)]
            exact hnd
          · simp [execOp, ho, hmx, hkx, Instr.mapUpdate, run_underlying hut, MapKept.run_getObj_map hg, hchk, h1, h4, h5, hst, MapKept.run_setObj_map _ hg, Result.andThen]
      · cases hq
    · cases hq
  · cases hq
theorem orS_some {p q : Option SR} {r : SR} (h : orS p q = some r) : p = some r ∨ q = some r := by
  cases p with
  | none => exact .inr h
  | some x => exact .inl h
theorem Rows_cpy {t : Ty} {xs ys : List (el t)} {vs us : List Value} (hx : Rows w Fz t xs vs) (hy : Rows w Fz t ys us) : Rows w Fz t (cpyL xs ys) (us.take (xs.length * sz t) ++ vs.drop (ys.length * sz t)) := by
  have take : ∀ {xs : List (el t)} {vs : List Value} (n : Nat), Rows w Fz t xs vs → Rows w Fz t (xs.take n) (vs.take (n * sz t)) := fun {xs vs} n h => by
    refine ⟨?_, fun i hi => ?_⟩
    · rw [List.length_take, List.length_take, h.1, Nat.mul_min_mul_right]
    · have hi2 : i < xs.length := by rw [List.length_take] at hi; omega
      have hi3 : i < n := by rw [List.length_take] at hi; omega
      have := h.2 i hi2
      rw [List.getElem_take]
      have hle : (i + 1) * sz t ≤ n * sz t := Nat.mul_le_mul_right _ hi3
      rw [Nat.succ_mul] at hle
      rwa [List.drop_take, List.take_take, Nat.min_eq_left (by omega)]
  have drop : ∀ {xs : List (el t)} {vs : List Value} (n : Nat), Rows w Fz t xs vs → Rows w Fz t (xs.drop n) (vs.drop (n * sz t)) := fun {xs vs} n h => by
    refine ⟨?_, fun i hi => ?_⟩
    · rw [List.length_drop, List.length_drop, h.1, Nat.sub_mul]
    · have hi2 : n + i < xs.length := by rw [List.length_drop] at hi; omega
      have := h.2 (n + i) hi2
      rw [List.getElem_drop, List.drop_drop]
      rwa [show n * sz t + i * sz t = (n + i) * sz t from by rw [Nat.add_mul]]
  exact Rows_app (take _ hy) (drop _ hx)
theorem updF_same (h : Hp) (id : Nat) (ob : Option Obj) (hb : h id = ob) : updF h [(id, ob)] = h := by
  funext i
  by_cases hi : i = id
  · subst hi; simp [updF, hb]
  · simp [updF, hi]
theorem copy_ok (EOK : EnvOk E) (R : RelM w0 T Fz0 U h ρ Fz w) (hsub : ∀ id ob, hr id = some ob → h id = some ob) {Tt Tt' : Nat} {s x : Operand} {sv xv : TV} {q : SR} (y : el q.τ) (ho : o.op = .call { callee := .builtin .copy, args := #[s, x], argTypes := #[Tt, Tt'] }) (hs : TVRep w ρ Fz sv (a.eval s)) (hx : TVRep w ρ Fz xv (a.eval x)) (hq : copySR E hr Tt sv xv = some q) :
    Done E w0 T Fz0 (fun i => U i ∨ i ∈ (q.upd y).map (·.1)) (updF h (q.upd y)) ρ Fz w o a (q.val y) := by
  unfold copySR at hq
  split at hq
  · rename_i e t hel
    split at hq
    · rename_i id d
      split at hq
      · rename_i xs ys h1 h2
        obtain ⟨hap, hq⟩ := cond_some hq
        cases hq
        have hap' := apart_one hap
        obtain ⟨hu, hty⟩ := elemOf_some hel
        have ok := EOK e t hty
        have hpos := ok.pos
        obtain ⟨i, zv, hi, hz1, hz0⟩ := ok.zero
        have hsz : i.size = sz t := by rw [← ok.sz]; simp [Program.cellsOf, hi]
        obtain ⟨vs, hown, hrows, hcase⟩ := own_KO (R.less hsub) h1 hs
        obtain ⟨A, cp, us, hxv, hrowsy, hsrc⟩ := read_src (R.less hsub) h2 hx
        refine weakU' (U := U) ?_ fun i hi => .inl hi
        show Done E w0 T Fz0 U (updF h [(id, some (.own e t (cpyL xs ys)))]) ρ Fz w o a (.c (.int .i64 ((Nat.min ys.length xs.length : Nat) : Int)))
        rcases hcase with ⟨hc, _⟩ | ⟨id', hc, hb, hid⟩
        · cases hc
        · cases hc
          have hb0 := hsub id _ hb
          have hnew := Rows_cpy hrows hrowsy
          have hlu := hrowsy.1
          have hlv := hrows.1
          have same : (ys.length = 0 ∨ xs.length = 0) → cpyL xs ys = xs := by
            rintro (h0 | h0)
            · have : ys = [] := List.eq_nil_of_length_eq_zero h0
              subst this; simp [cpyL]
            · have : xs = [] := List.eq_nil_of_length_eq_zero h0
              subst this; simp [cpyL]
          have quiet : (ys.length = 0 ∨ xs.length = 0) → Done E w0 T Fz0 U (updF h [(id, some (.own e t (cpyL xs ys)))]) ρ Fz w o a (.c (.int .i64 ((Nat.min ys.length xs.length : Nat) : Int))) := by
            intro h0
            have hmin : Nat.min ys.length xs.length = 0 := by
              show min ys.length xs.length = 0
              omega
            rw [same h0, updF_same h id _ hb0, hmin]
            refine Done.same R (v := .int .i64 0) ?_ rfl
            rcases hown.2 with ⟨hv, hn⟩ | ⟨g, cap, cur, hv, _⟩
            · have hn : xs.length = 0 := hn
              cases A with
              | none => simp [execOp, ho, resolve, invoke, builtin, hv, hxv, Builtin.copy_, run_underlying hu, Builtin.lenOf, Builtin.firstCells, sizeOf, typeInfo, hi, goInt, hn]
              | some p => simp [execOp, ho, resolve, invoke, builtin, hv, hxv, Builtin.copy_, run_underlying hu, Builtin.lenOf, Builtin.firstCells, sizeOf, typeInfo, hi, goInt, hn, loadCells, loadCellsFrom]
            · cases A with
              | none => simp [execOp, ho, resolve, invoke, builtin, hv, hxv, Builtin.copy_, run_underlying hu, Builtin.lenOf, Builtin.firstCells, sizeOf, typeInfo, hi, goInt, hmin, storeCells]
              | some p => simp [execOp, ho, resolve, invoke, builtin, hv, hxv, Builtin.copy_, run_underlying hu, Builtin.lenOf, Builtin.firstCells, sizeOf, typeInfo, hi, goInt, hmin, storeCells, loadCells, loadCellsFrom]
          by_cases h0 : ys.length = 0 ∨ xs.length = 0
          · exact quiet h0
          · obtain ⟨gs, os, rfl, hcells⟩ := hsrc (by omega)
            rcases hown.2 with ⟨_, hn⟩ | ⟨g, cap, cur, hv, _, hg, hnc, hcm, hcs, htake⟩
            · omega
            · rw [hv] at hid
              have hlive : Live h ρ id g := ⟨_, _, hb0, rfl, hid, rfl⟩
              have hnfz : ¬ Fz g := (R.mt id g hlive).1
              let cs := us.take (xs.length * sz t)
              have hcl : cs.length = min ys.length xs.length * sz t := by
                show (us.take (xs.length * sz t)).length = _
                rw [List.length_take, hlu, Nat.mul_min_mul_right, Nat.min_comm]
              have hcapsz : xs.length * sz t ≤ cap * sz t := Nat.mul_le_mul_right _ hnc
              have hcle : cs.length ≤ xs.length * sz t := by rw [hcl]; exact Nat.mul_le_mul_right _ (Nat.min_le_right _ _)
              have hfits : 0 + cs.length ≤ cur.size := by omega
              have h1c : ∀ v ∈ cs, v.oneCell' = true := fun v hv => Rows_one' hrowsy v (List.mem_of_mem_take hv)
              have hl := run_loadCells_list (P := E.P) w ⟨gs, os, none⟩ cs (fun j v hj => by
                have : us[j]? = some v := by
                  have h5 : j < xs.length * sz t := by
                    have := (List.getElem?_eq_some_iff.1 hj).1
                    have h6 : cs.length ≤ xs.length * sz t := hcle
                    omega
                  rw [List.getElem?_take, if_pos h5] at hj
                  exact hj
                have := hcells j v this
                rw [Addr.add_lit]; exact this)
              have hst := run_storeCells_at E.P g 0 e cs 0 cur w hg (by simpa using hfits) h1c
              have hexe : (execOp a.eval o).run E.P w = .ok (.value (.int .i64 ((Nat.min ys.length xs.length : Nat) : Int))) (w.setRow g (cur.toList.take 0 ++ cs ++ cur.toList.drop (0 + cs.length)).toArray) := by
                have hl' : (loadCells ⟨gs, os, none⟩ (Nat.min ys.length xs.length * sz t)).run E.P w = .ok cs.toArray w := by
                  rw [← hl, hcl]
                simp [execOp, ho, resolve, invoke, builtin, hv, hxv, Builtin.copy_, run_underlying hu, Builtin.lenOf, Builtin.firstCells, sizeOf, typeInfo, hi, goInt, hsz, hl', hst]
              have hgr := grow_setRow (new := (cur.toList.take 0 ++ cs ++ cur.toList.drop (0 + cs.length)).toArray) hg
              have hwd : ∀ b, Fz b → (w.setRow g (cur.toList.take 0 ++ cs ++ cur.toList.drop (0 + cs.length)).toArray).heap[b]? = w.heap[b]? := fun b hb => setRow_other w g b _ (fun e => hnfz (e ▸ hb))
              have hlen : (cpyL xs ys).length = xs.length := by unfold cpyL; rw [List.length_append, List.length_take, List.length_drop]; omega
              obtain ⟨R', m⟩ := R.put (U' := U) (h' := updF h [(id, some (.own e t (cpyL xs ys)))]) hgr id (.own e t (cpyL xs ys)) (.slice (some ⟨g, 0, none⟩) xs.length cap) rfl rfl
                (fun b hb => by cases hb; exact ⟨id, hlive, .inr rfl⟩) (.inr ⟨_, hid, .inl rfl⟩) (fun b hb => by cases hb; exact .inr ⟨id, hlive, .inr rfl⟩) (fun _ h => h) (R.dom id _ hid).1 (by simp [updF]) (fun k ob hk hob => by simpa [updF, hk] using hob)
                ⟨_, by
                  rw [hlen]
                  refine ⟨by have := hnew.1; rw [hlen] at this; exact this, .inr ⟨g, cap, _, rfl, Nat.zero_le _, setRow_heap w g cur _ e (0, 0) hg, hnc, hcm, ?_, ?_⟩⟩
                  · simp only [List.size_toArray, List.length_append, List.length_take, List.length_drop, Array.length_toList]; omega
                  · simp only [List.take_zero, List.nil_append, Nat.zero_add]
                    show (cs ++ cur.toList.drop cs.length).take (xs.length * sz t) = cs ++ vs.drop (ys.length * sz t)
                    rw [List.take_append, List.take_of_length_le hcle, ← htake]
                    congr 1
                    rw [List.drop_take]
                    by_cases hle : ys.length ≤ xs.length
                    · have : cs.length = ys.length * sz t := by rw [hcl, Nat.min_eq_left hle]
                      rw [this]
                    · have : cs.length = xs.length * sz t := by rw [hcl, Nat.min_eq_right (by omega)]
                      have h7 : xs.length * sz t ≤ ys.length * sz t := Nat.mul_le_mul_right _ (by omega)
                      rw [this, Nat.sub_self, List.take_zero, Nat.sub_eq_zero_of_le h7, List.take_zero], Rows_mono (fun _ h => h) hwd (by simpa using hnew)⟩
              exact ⟨_, _, _, Fz, .inl hexe, R', m, rfl⟩
      · cases hq
    · cases hq
  · cases hq
theorem oneV_rep {t : Ty} {x : el t} {v : Value} {cs : List Value} (ho : OneV (isAg t) v cs) (hk : KI w Fz t x cs) : AVRep w ρ Fz (oneV t (cells t x)) v := by
  have hc := KI_cells ρ hk
  have hl := cells_len t x
  unfold oneV
  rcases ho with ⟨hag, rfl⟩ | ⟨hag, rfl⟩
  · rw [hag]
    refine ⟨cs.toArray, rfl, ?_⟩
    rw [List.take_of_length_le (by omega)]
    simpa using hc
  · rw [hag]
    cases hcs : cells t x with
    | nil => rw [hcs] at hc; exact hc.elim
    | cons c r =>
      rw [hcs] at hc
      exact hc.1
theorem lookupMq_ok (EOK : EnvOk E) (R : RelM w0 T Fz0 U h ρ Fz w) {Tt : Nat} {m k : Operand} {mv kv : TV} {q : SR} (y : el q.τ) (ho : o.op = .lookup Tt m k false) (hm : TVRep w ρ Fz mv (a.eval m)) (hk : TVRep w ρ Fz kv (a.eval k)) (hq : lookupMqSR E Tt mv kv = some q) (hc : ∀ c ∈ q.conds, c = true) :
    Done E w0 T Fz0 (fun i => U i ∨ i ∈ (q.upd y).map (·.1)) (updF h (q.upd y)) ρ Fz w o a (q.val y) := by
  unfold lookupMqSR at hq
  split at hq
  · rename_i T' t es n
    split at hq
    · rename_i vt t' hmt
      split at hq
      · rename_i es' hes
        cases hq
        have := mqas_some hes
        cases this
        have hwf : (Lit.int .i64 n).wf = true := hc _ (by simp [SR.now, wfs])
        obtain ⟨kt, hut, huk, hty, i, z, hi, hz, hzf⟩ := mqT_some hmt
        have ok := EOK vt t hty
        obtain ⟨i', z', hi', hz', hz0⟩ := ok.zero
        rw [hi] at hi'; cases hi'
        rw [hz] at hz'; cases hz'
        have hzero : (zeroValue vt).run E.P w = .ok z w := by simp [zeroValue, typeInfo, hi, hz]
        have hzo : OneV (isAg t) z z.cells.toList := by
          rcases hzf with ⟨hag, c, rfl⟩ | ⟨hag, hne⟩
          · exact .inl ⟨hag, by simp [Value.cells]⟩
          · refine .inr ⟨hag, ?_⟩
            cases z <;> first | rfl | exact absurd rfl (hne _)
        have hkx : a.eval k = .int .i64 n := hk
        obtain ⟨mm, hmm, h1, h2⟩ := (hm : KI w Fz (.mq Tt t) es [a.eval m])
        have hmx : a.eval m = .map mm := by simpa using hmm
        refine weakU' (U := U) ?_ fun i hi => .inl hi
        show Done E w0 T Fz0 U (updF h []) ρ Fz w o a (.v (oneV t (cells t (mqget es n (dflt t)))))
        have L := Maps.int_keyed huk
        have hlx := Maps.keyOf_int_mk huk hwf
        cases mm with
        | none =>
          obtain rfl := h2 rfl
          have hchk := L.check w true hlx
          refine Done.same R (v := z) ?_ (oneV_rep hzo (hz0 w Fz))
          rcases L.find w hlx [] (fun e he => by cases he) with ⟨h3, _⟩ | ⟨j, e, _, h, _⟩
          · simp [execOp, ho, hmx, hkx, Instr.lookup, run_underlying hut, hchk, h3, hzero, Result.andThen]
          · simp at h
        | some g =>
          obtain ⟨hfg, arr, clk, hg, hme, hnd⟩ := h1 g rfl
          have hchk := L.check w arr.isEmpty hlx
          rcases mqfind (w := w) huk hme hwf with ⟨h3, h4⟩ | ⟨j, e, me, h3, h4, h5, h6, h7, c, hoc, hkc⟩
          · rw [mqget_none h4]
            refine Done.same R (v := z) ?_ (oneV_rep hzo (hz0 w Fz))
            simp [execOp, ho, hmx, hkx, Instr.lookup, run_underlying hut, MapKept.run_getObj_map hg, hchk, h3, hzero, Result.andThen]
          · rw [mqget_at hnd h4 h5]
            refine Done.same R (v := me.val) ?_ (oneV_rep hoc hkc)
            simp [execOp, ho, hmx, hkx, Instr.lookup, run_underlying hut, MapKept.run_getObj_map hg, hchk, h3, Result.andThen]
      · cases hq
    · cases hq
  · cases hq
end
end Go.Sx
