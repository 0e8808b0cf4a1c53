/- Rows owned with all rows that are in them: literal ones, and such as are put behind each other. Any program. -/
import Derived.Test.YtjgpacfhokpfdaaSx22
set_option linter.unusedVariables false
set_option linter.unusedSimpArgs false
namespace Go.Sx
open Go.RowKit
section
variable {w w' : World}
theorem Cw_ones : ∀ {cs : List AC} {vs : List Value} {bs : List (List Nat)}, Cw w cs vs bs → ∀ u ∈ vs, u.oneCell' = true
  | [], _, _, h, u, hu => by obtain ⟨rfl, rfl⟩ := Cw_nil h; cases hu
  | c :: cs, _, _, h, u, hu => by
    obtain ⟨v, vs, b, bs, rfl, rfl, h1, h2⟩ := Cw_cons h
    rcases List.mem_cons.1 hu with rfl | hu
    · cases c with
      | int k n => obtain ⟨rfl, _⟩ := h1; rfl
      | bool q => obtain ⟨rfl, _⟩ := h1; rfl
      | str s => obtain ⟨rfl, _⟩ := h1; rfl
      | sl e t xs => exact (DO_one h1).1
      | _ => exact h1.elim
    · exact Cw_ones h2 u hu
theorem DO_ones {t : Ty} {x : el t} {cs : List Value} {bl : List Nat} (h : DO w t x cs bl) : ∀ u ∈ cs, u.oneCell' = true := by
  obtain ⟨bs, hc, _⟩ := DO_cells h
  exact Cw_ones hc
end
section
variable {w0 w : World} {T Fz0 Fz U : Nat → Prop} {h hr : Hp} {ρ : Nat → Option Value}
theorem decDN_DO (R : RelM w0 T Fz0 U h ρ Fz w) (t : Ty) : ∀ (n : Nat) (acs : List AC) (xs : List (el t)) (vs : List Value), decDN h t n acs = some xs → All2 (ACRep w ρ Fz) acs vs →
    ∃ bls : List (List Nat), xs.length = n ∧ bls.length = n ∧ vs.length = n * sz t ∧ (∀ i (hi : i < xs.length), DO w t xs[i] ((vs.drop (i * sz t)).take (sz t)) (bls.getD i [])) ∧ (bls.flatten = (oIds acs).flatMap fun id => (ρ id).toList.flatMap blksV) ∧ ∀ id ∈ oIds acs, ∃ ob, h id = some ob ∧ ob.wr = true
  | 0, acs, xs, vs, hd, ha => by
    cases acs with
    | nil =>
      cases hd
      obtain rfl : vs = [] := List.eq_nil_of_length_eq_zero (by simpa using ha.len.symm)
      exact ⟨[], rfl, rfl, by simp, (fun i hi => by cases hi), rfl, fun id hi => by cases hi⟩
    | cons c cs => cases hd
  | n + 1, acs, xs, vs, hd, ha => by
    unfold decDN at hd
    cases h1 : decD h t acs with
    | none => rw [h1] at hd; cases hd
    | some p =>
      obtain ⟨x, r⟩ := p
      rw [h1] at hd
      simp only at hd
      cases h2 : decDN h t n r with
      | none => rw [h2] at hd; cases hd
      | some ys =>
        rw [h2] at hd
        cases hd
        obtain ⟨used, c1, c2, bl, rfl, rfl, ha2, hdd, hb, hob⟩ := decD_DO R t acs x r vs h1 ha
        obtain ⟨bls, l1, l2, l3, hel, hbs, hob2⟩ := decDN_DO R t n r ys c2 h2 ha2
        have hc1 : c1.length = sz t := DO_len hdd
        refine ⟨bl :: bls, by rw [List.length_cons, l1], by rw [List.length_cons, l2], by rw [List.length_append, l3, hc1, Nat.succ_mul]; omega, fun i hi => ?_, by rw [List.flatten_cons, oIds_app, List.flatMap_append, hb, hbs], fun id hi => by
          rw [oIds_app] at hi
          exact (List.mem_append.1 hi).elim (hob id) (hob2 id)⟩
        cases i with
        | zero =>
          show DO w t x (((c1 ++ c2).drop (0 * sz t)).take (sz t)) bl
          rw [Nat.zero_mul, List.drop_zero, ← hc1, List.take_left]
          exact hdd
        | succ i =>
          show DO w t (ys[i]'(by simpa using hi)) (((c1 ++ c2).drop ((i + 1) * sz t)).take (sz t)) (bls.getD i [])
          rw [show (i + 1) * sz t = c1.length + i * sz t by rw [hc1, Nat.succ_mul]; omega, ← List.drop_drop, List.drop_left]
          exact hel i (by simpa using hi)
end
section
variable {E : Env} {w0 w : World} {T Fz0 Fz U : Nat → Prop} {h hr : Hp} {ρ : Nat → Option Value} {o : Oper} {a : Act}
theorem buildDp_ok (EOK : EnvOk E) (R : RelM w0 T Fz0 U h ρ Fz w) (hsub : ∀ id ob, hr id = some ob → h id = some ob) {next : Nat} (hn : ¬ U next) {Tt : TypeId} {len : Nat} {parts : Array (Nat × Operand)} (ho : o.op = .buildSlice Tt len parts)
    {e : Nat} {t : Ty} (he : elemOf E Tt = some (e, t)) {z : List AC} (hz : zeroOf E e = some z) {ro : Operand → TV} (hp : ∀ p ∈ parts.toList, TVRep w ρ Fz (ro p.2) (a.eval p.2))
    {cs : List AC} (hf : fillP (fun i => some (i * E.P.cellsOf e, E.P.cellsOf e)) ((List.replicate len z).flatten) (parts.toList.map fun (i, x) => (i, ro x)) = some cs)
    {xs : List (el t)} (hx : decDN hr t len cs = some xs) (hle : len * E.P.cellsOf e ≤ 16777216) (hnd : (oIds cs).Nodup) :
    Done E w0 T Fz0 (fun i => U i ∨ i = next) (updF h ((oIds cs).map (fun k => (k, none)) ++ [(next, some (.dp e t xs))])) ρ Fz w o a (.c (.o next)) := by
  obtain ⟨hu, hty⟩ := elemOf_some he
  have ok := EOK e t hty
  obtain ⟨i, zv, hi, hz1, hz0⟩ := ok.zero
  obtain ⟨i', zv', hi', hz1', rfl⟩ := zeroOf_some hz
  rw [hi] at hi'; cases hi'
  rw [hz1] at hz1'; cases hz1'
  have hsz : i.size = sz t := by rw [← ok.sz]; simp [Program.cellsOf, hi]
  have hzs : zv.cells.size = sz t := by have := KI_len (hz0 w Fz); simpa using this
  have hmade := made_flat zv.cells len (by rw [hzs]; exact ok.pos)
  have hz2 : All2 (ACRep w ρ Fz) ((List.replicate len (zv.cells.toList.map ofConst1)).flatten) (madeCells zv.cells (len * zv.cells.size)).toList := by
    rw [hmade]
    have : (List.replicate len (zv.cells.toList.map ofConst1)).flatten = ((List.replicate len zv.cells.toList).flatten).map ofConst1 := by rw [List.map_flatten, List.map_replicate]
    rw [this]
    exact ofConsts_rep _
  obtain ⟨ov, hov, hrep⟩ := fill_ok _ (fun i => some (i * E.P.cellsOf e, E.P.cellsOf e)) (fun _ _ h => h) R parts.toList ro _ (madeCells zv.cells (len * zv.cells.size)) cs hp hz2 hf
  obtain ⟨bls, hxl, hbl, hvl, hel, hbs, hob⟩ := decDN_DO (R.less hsub) t len cs xs ov.toList hx hrep
  obtain ⟨q1, q2⟩ := bl_nodup (R.less hsub) (oIds cs) hnd hob
  rw [← hbs] at q1 q2
  have hlive : ∀ b ∈ bls.flatten, ∃ id ∈ oIds cs, Live h ρ id b := fun b hb => by
    obtain ⟨id, h1, ob, v, h2, h3⟩ := q2 b hb
    exact ⟨id, h1, ob, v, hsub id ob h2, h3⟩
  have hlt : ∀ b ∈ bls.flatten, b < w.heap.size := fun b hb => by
    obtain ⟨id, _, hl⟩ := hlive b hb
    exact (R.mt id b hl).2.1
  have hsize : ov.size = len * sz t := by simpa using hvl
  have hbytes : len ≤ len * E.P.cellsOf e := Nat.le_mul_of_pos_right _ (by rw [ok.sz]; exact ok.pos)
  have hown := World.ownsRow_lit (base := 0) (e := e) w ov len (Nat.zero_le _) (by unfold maxLen; omega) hsize
  have hnone : ρ next = none := by
    cases hρ : ρ next with
    | none => rfl
    | some v => exact absurd (R.dom next v hρ).1 hn
  have hne : ∀ id ∈ oIds cs, id ≠ next := fun id hid e => by
    obtain ⟨ob, h1, _⟩ := hob id hid
    obtain ⟨v, h2, _⟩ := R.objs id ob (hsub id ob h1)
    rw [e, hnone] at h2; cases h2
  have hgone : ∀ id ∈ oIds cs, updF h ((oIds cs).map (fun k => (k, none)) ++ [(next, some (.dp e t xs))]) id = none := fun id hid => by
    rw [updF_app, updF_not _ _ _ (by simp [hne id hid]), updF_gone, if_pos hid]
  have hv : ∀ b ∈ bls.flatten, b ≠ w.heap.size := fun b hb => by have := hlt b hb; omega
  obtain ⟨R', m⟩ := R.put (w' := w.alloc (.cells ov e)) (U' := fun i => U i ∨ i = next) (h' := updF h ((oIds cs).map (fun k => (k, none)) ++ [(next, some (.dp e t xs))])) (World.grownBy_alloc w _ none) next (.dp e t xs)
    (ghost (.slice (some ⟨w.heap.size, 0, none⟩) len len) ([w.heap.size] ++ bls.flatten)) rfl rfl (fun b hb => by cases hb) (.inl hnone)
    (fun b hb => by
      have hb := mem_blksV.2 hb
      rw [ghost_blks] at hb
      rcases List.mem_append.1 hb with hb | hb
      · obtain rfl := List.mem_singleton.1 hb
        exact .inl ⟨Nat.le_refl _, by simp⟩
      · obtain ⟨id, h1, h2⟩ := hlive b hb
        exact .inr ⟨id, h2, .inl (hgone id h1)⟩) (fun i hi => .inl hi) (.inr rfl) (by rw [updF_app]; simp [updF])
    (fun k ob hk hob => by
      rw [updF_app, updF_not _ _ _ (by simp [hk]), updF_gone] at hob
      split at hob
      · cases hob
      · exact hob)
    ⟨_, _, rfl, ⟨_, ov.toList, bls, rfl, by rw [hxl]; exact hown, by rw [hxl]; exact hvl, by rw [hbl, hxl], fun j hj => DO_mono (fun b hb => Below.heap_alloc w _ b (hlt b (mem_getD hb))) (hel j hj), rfl⟩, by
      refine List.nodup_append.2 ⟨by simp, q1, fun b hb c hc e => ?_⟩
      obtain rfl := List.mem_singleton.1 hb
      exact hv c hc e.symm⟩
  refine ⟨.slice (some ⟨w.heap.size, 0, none⟩) len len, _, _, Fz, .inl ?_, R', m, ⟨_, if_pos rfl, rfl, rfl⟩⟩
  have hco : E.P.cellsOf e = i.size := by simp [Program.cellsOf, hi]
  rw [hco] at hov hle
  rw [hzs, ← hsz] at hov
  have hr := run_buildSlice (P := E.P) w Tt e i zv len (parts.map fun (i, x) => (i, a.eval x)) ov hu hi hz1 hle (by rw [Array.toList_map]; exact hov)
  simp [execOp, ho, hr]
theorem getD_app {l1 l2 : List (List Nat)} {i : Nat} : (l1 ++ l2).getD i [] = if i < l1.length then l1.getD i [] else l2.getD (i - l1.length) [] := by
  rw [List.getD_eq_getElem?_getD, List.getElem?_append]
  split <;> rw [List.getD_eq_getElem?_getD]
theorem oIds_two (c d : AC) : oIds [c, d] = oIds [c] ++ oIds [d] := oIds_app [c] [d]
theorem appDp_ok (EOK : EnvOk E) (R : RelM w0 T Fz0 U h ρ Fz w) (hsub : ∀ id ob, hr id = some ob → h id = some ob) {next : Nat} (hn : ¬ U next) {s x : Operand} {Tt : TypeId}
    (ho : o.op = .call { callee := .builtin .append, args := #[s, x], argTypes := #[Tt, Tt] }) {sv xv : TV} (hs : TVRep w ρ Fz sv (a.eval s)) (hx : TVRep w ρ Fz xv (a.eval x))
    {q : SR} (hq : appDpSR E hr next Tt sv xv = some q) (hc : ∀ c ∈ q.conds, c = true) (y : el q.τ) :
    Done E w0 T Fz0 (fun i => U i ∨ i = next) (updF h (q.upd y)) ρ Fz w o a (q.val y) := by
  unfold appDpSR at hq
  cases he : elemOf E Tt with
  | none => rw [he] at hq; cases hq
  | some p =>
  obtain ⟨e, t⟩ := p
  rw [he] at hq
  obtain ⟨hu, hty⟩ := elemOf_some he
  have ok := EOK e t hty
  obtain ⟨i, z, hi, hz, hz0⟩ := ok.zero
  simp only at hq
  split at hq
  · rename_i c d
    have hs' : ACRep w ρ Fz c (a.eval s) := hs
    have hx' : ACRep w ρ Fz d (a.eval x) := hx
    replace hq := cond_some hq
    obtain ⟨hcnd, hq⟩ := hq
    simp only [Bool.and_eq_true] at hcnd
    have hnd := nodupB_nodup hcnd.2
    split at hq
    · rename_i xs ys hxs hys
      cases hq
      have Rr : RelM w0 T Fz0 U hr ρ Fz w := R.less hsub
      obtain ⟨bl1, hd1, e1, ob1⟩ := asDeep_DO Rr hxs hs'
      obtain ⟨bl2, hd2, e2, ob2⟩ := asDeep_DO Rr hys hx'
      have hob : ∀ id ∈ oIds [c, d], ∃ ob, hr id = some ob ∧ ob.wr = true := fun id hid => by
        rw [oIds_two] at hid
        exact (List.mem_append.1 hid).elim (ob1 id) (ob2 id)
      obtain ⟨q1, q2⟩ := bl_nodup Rr (oIds [c, d]) hnd hob
      have eb : ((oIds [c, d]).flatMap fun id => (ρ id).toList.flatMap blksV) = bl1 ++ bl2 := by rw [oIds_two, List.flatMap_append, ← e1, ← e2]
      rw [eb] at q1 q2
      have hlive : ∀ b ∈ bl1 ++ bl2, ∃ id ∈ oIds [c, d], Live h ρ id b := fun b hb => by
        obtain ⟨id, h1, ob, v, h2, h3⟩ := q2 b hb
        exact ⟨id, h1, ob, v, hsub id ob h2, h3⟩
      have hlt : ∀ b ∈ bl1 ++ bl2, b < w.heap.size ∧ ¬ Fz b := fun b hb => by
        obtain ⟨id, _, hl⟩ := hlive b hb
        exact ⟨(R.mt id b hl).2.1, (R.mt id b hl).1⟩
      obtain ⟨v1, vs, bls1, hv1, hown1, hvl1, hbl1, hel1, rfl⟩ := hd1
      obtain ⟨v2, us, bls2, hv2, hown2, hvl2, hbl2, hel2, rfl⟩ := hd2
      have hv1 : a.eval s = v1 := (List.cons.inj hv1).1
      have hv2 : a.eval x = v2 := (List.cons.inj hv2).1
      have hcond : (xs.length + ys.length) * E.P.bytesOf e ≤ 140737488351232 := by
        have := hc _ (List.mem_singleton.2 rfl)
        simpa using this
      have hsz : i.size = sz t := by rw [← ok.sz]; simp [Program.cellsOf, hi]
      have hby : E.P.bytesOf e = i.bytes := by simp [Program.bytesOf, hi]
      have hlen : xs.length + ys.length ≤ (xs.length + ys.length) * E.P.bytesOf e := Nat.le_mul_of_pos_right _ ok.by1
      have hzs : z.cells.size = sz t := by have := KI_len (hz0 w Fz); simpa using this
      have hone : ∀ u ∈ us, u.oneCell' = true := by
        intro u hu
        obtain ⟨j, hj, rfl⟩ := List.mem_iff_getElem.1 hu
        have hi : j / sz t < ys.length := by rw [Nat.div_lt_iff_lt_mul ok.pos]; omega
        refine DO_ones (hel2 (j / sz t) hi) _ ?_
        have hm : j % sz t < sz t := Nat.mod_lt _ ok.pos
        have hd : sz t * (j / sz t) + j % sz t = j := Nat.div_add_mod j (sz t)
        have : ((us.drop (j / sz t * sz t)).take (sz t))[j % sz t]? = some us[j] := by
          rw [List.getElem?_take, if_pos hm, List.getElem?_drop, Nat.mul_comm, hd, List.getElem?_eq_getElem hj]
        exact List.mem_of_getElem? this
      obtain ⟨A, cp, hA2, hA⟩ : ∃ A cp, v2 = .slice A ys.length cp ∧ (0 < ys.length → ∃ ad, A = some ad ∧ ∀ j u, us[j]? = some u → w.cell? (ad.add j) = some u) := by
        rcases hown2.2 with ⟨rfl, h0⟩ | ⟨g, cap, cur, rfl, hrest⟩
        · exact ⟨none, 0, by rw [h0], fun hp => by omega⟩
        · exact ⟨_, cap, rfl, fun _ => ⟨_, rfl, hown2.cells (g := g) rfl⟩⟩
      subst hA2
      obtain ⟨v', w', hrun, hown', hg, hat⟩ := run_append_at (P := E.P) w Tt o.type e i z (sz t) hu hi hz hsz hzs ok.pos v1 xs.length vs hown1 A ys.length cp us hvl2 hA hone (by unfold maxLen; omega) (by rw [← hby]; omega)
      have hexe : (execOp a.eval o).run E.P w = .ok (.value v') w' := by
        unfold execOp
        simp only [ho, resolve, invoke, builtin, Sem.run_bind, Sem.run_pure, Result.andThen_ok, List.map_toArray, List.map_cons, List.map_nil, hv1, hv2, hrun]
      have hnone : ρ next = none := by
        cases hρ : ρ next with
        | none => rfl
        | some v => exact absurd (R.dom next v hρ).1 hn
      have hne : ∀ id ∈ oIds [c, d], id ≠ next := fun id hid e => by
        obtain ⟨ob, h1, _⟩ := hob id hid
        obtain ⟨v, h2, _⟩ := R.objs id ob (hsub id ob h1)
        rw [e, hnone] at h2; cases h2
      have hgone : ∀ id ∈ oIds [c, d], updF h ((oIds [c, d]).map (fun k => (k, none)) ++ [(next, some (.dp e t (xs ++ ys)))]) id = none := fun id hid => by
        rw [updF_app, updF_not _ _ _ (by simp [hne id hid]), updF_gone, if_pos hid]
      have hrow : ∀ b, blkV v1 = some b → b ∈ (blkV v1).toList ++ bls1.flatten ++ ((blkV (.slice A ys.length cp)).toList ++ bls2.flatten) := fun b hb => List.mem_append_left _ (List.mem_append_left _ (by rw [hb]; simp))
      have hin1 : ∀ b ∈ bls1.flatten, b ∈ (blkV v1).toList ++ bls1.flatten ++ ((blkV (.slice A ys.length cp)).toList ++ bls2.flatten) := fun b hb => List.mem_append_left _ (List.mem_append_right _ hb)
      have hin2 : ∀ b ∈ bls2.flatten, b ∈ (blkV v1).toList ++ bls1.flatten ++ ((blkV (.slice A ys.length cp)).toList ++ bls2.flatten) := fun b hb => List.mem_append_right _ (List.mem_append_right _ hb)
      have hq1 := q1
      obtain ⟨n1, n2, n3⟩ := List.nodup_append.1 q1
      obtain ⟨n4, n5, n6⟩ := List.nodup_append.1 n1
      obtain ⟨n7, n8, n9⟩ := List.nodup_append.1 n2
      have hk1 : ∀ b ∈ bls1.flatten, w'.heap[b]? = w.heap[b]? := fun b hb => hg.block b (hlt b (hin1 b hb)).1 (fun e => n6 b (by rw [← e]; simp) b hb rfl)
      have hk2 : ∀ b ∈ bls2.flatten, w'.heap[b]? = w.heap[b]? := fun b hb => hg.block b (hlt b (hin2 b hb)).1 (fun e => n3 b (List.mem_append_left _ (by rw [← e]; simp)) b (List.mem_append_right _ hb) rfl)
      have hnew : ∀ b, blkV v' = some b → b ∉ bls1.flatten ∧ b ∉ bls2.flatten := fun b hb => by
        rcases hat with hat | ⟨hat, _⟩
        · rw [hat] at hb
          exact ⟨fun hm => n6 b (by rw [hb]; simp) b hm rfl, fun hm => n3 b (List.mem_append_left _ (by rw [hb]; simp)) b (List.mem_append_right _ hm) rfl⟩
        · rw [hat] at hb; cases hb
          exact ⟨fun hm => by have := (hlt _ (hin1 _ hm)).1; omega, fun hm => by have := (hlt _ (hin2 _ hm)).1; omega⟩
      obtain ⟨R', m⟩ := R.put (w' := w') (U' := fun i => U i ∨ i = next) (h' := updF h ((oIds [c, d]).map (fun k => (k, none)) ++ [(next, some (.dp e t (xs ++ ys)))])) hg next (.dp e t (xs ++ ys))
        (ghost v' ((blkV v').toList ++ (bls1 ++ bls2).flatten)) rfl rfl
        (fun b hb => by
          obtain ⟨id, h1, h2⟩ := hlive b (hrow b hb)
          exact ⟨id, h2, .inl (hgone id h1)⟩) (.inl hnone)
        (fun b hb => by
          have hb := mem_blksV.2 hb
          rw [ghost_blks] at hb
          have key : b ∈ (blkV v1).toList ++ bls1.flatten ++ ((blkV (.slice A ys.length cp)).toList ++ bls2.flatten) → (∃ id, Live h ρ id b ∧ (updF h ((oIds [c, d]).map (fun k => (k, none)) ++ [(next, some (.dp e t (xs ++ ys)))]) id = none ∨ id = next)) := fun hm => by
            obtain ⟨id, h1, h2⟩ := hlive b hm
            exact ⟨id, h2, .inl (hgone id h1)⟩
          rcases List.mem_append.1 hb with hb | hb
          · rw [Option.mem_toList] at hb
            rcases hat with hat | ⟨hat, hlt'⟩
            · rw [hat] at hb; exact .inr (key (hrow b hb))
            · rw [hat] at hb; cases hb; exact .inl ⟨Nat.le_refl _, hlt'⟩
          · rw [List.flatten_append] at hb
            rcases List.mem_append.1 hb with hb | hb
            · exact .inr (key (hin1 b hb))
            · exact .inr (key (hin2 b hb))) (fun i hi => .inl hi) (.inr rfl) (by rw [updF_app]; simp [updF])
        (fun k ob hk hob => by
          rw [updF_app, updF_not _ _ _ (by simp [hk]), updF_gone] at hob
          split at hob
          · cases hob
          · exact hob)
        ⟨v', _, rfl, ⟨v', vs ++ us, bls1 ++ bls2, rfl, by rw [List.length_append]; exact hown', by rw [List.length_append, List.length_append, hvl1, hvl2, Nat.add_mul], by rw [List.length_append, List.length_append, hbl1, hbl2], fun j hj => by
            rw [getD_app]
            by_cases hj1 : j < xs.length
            · have hle : (j + 1) * sz t ≤ xs.length * sz t := Nat.mul_le_mul_right _ hj1
              have hle' : (j + 1) * sz t = j * sz t + sz t := Nat.succ_mul ..
              rw [List.getElem_append_left hj1, if_pos (by omega), List.drop_append_of_le_length (by omega), List.take_append_of_le_length (by rw [List.length_drop]; omega)]
              exact DO_mono (fun b hb => hk1 b (mem_getD hb)) (hel1 j hj1)
            · have hj2 : j - xs.length < ys.length := by rw [List.length_append] at hj; omega
              rw [List.getElem_append_right (by omega), if_neg (by omega), hbl1]
              have e9 : j * sz t = vs.length + (j - xs.length) * sz t := by rw [hvl1, ← Nat.add_mul]; congr 1; omega
              rw [e9, ← List.drop_drop, List.drop_left]
              exact DO_mono (fun b hb => hk2 b (mem_getD hb)) (hel2 _ hj2), rfl⟩, by
          rw [List.flatten_append]
          refine List.nodup_append.2 ⟨by cases blkV v' <;> simp, List.nodup_append.2 ⟨n5, n8, fun b hb c hc e => n3 b (List.mem_append_right _ hb) c (List.mem_append_right _ hc) e⟩, fun b hb c hc e => ?_⟩
          subst e
          rw [Option.mem_toList] at hb
          obtain ⟨m1, m2⟩ := hnew b hb
          exact (List.mem_append.1 hc).elim m1 m2⟩
      exact ⟨v', w', _, Fz, .inl hexe, R', m, ⟨_, if_pos rfl, rfl, own_one hown'⟩⟩
    · cases hq
  · cases hq
/-- A slice of a row that is owned with what is in it: the row stays from then on. -/
theorem slice_dp_ok (EOK : EnvOk E) (R : RelM w0 T Fz0 U h ρ Fz w) (hsub : ∀ id ob, hr id = some ob → h id = some ob) {Tt : TypeId} {x : Operand} {lo hi : Option Operand} (ho : o.op = .slice Tt x lo hi none) {e : Nat} (hu : E.P.underlying Tt = some (.slice e)) {t : Ty} (hty : assoc E.tys e = some t)
    {c : AC} (hx : ACRep w ρ Fz c (a.eval x)) {id : Nat} {xs : List (el t)} (hd : dpO hr e t c = some (id, xs)) {l u : Int} (hlo : OptI (lo.map a.eval) 0 l) (hhi : OptI (hi.map a.eval) (xs.length : Int) u) (h0 : 0 ≤ l) (h1 : l ≤ u) (h2 : u ≤ (xs.length : Int)) :
    Done E w0 T Fz0 U (updF h [(id, some (.fro e t xs))]) ρ Fz w o a (.c (.sl e t ((xs.take u.toNat).drop l.toNat))) := by
  cases c with
  | o id' =>
    simp only [dpO] at hd
    cases hb : hr id' with
    | none => rw [hb] at hd; cases hd
    | some ob =>
      rw [hb] at hd
      cases ob with
      | dp e' t' xs' =>
        simp only at hd
        cases ha : (SlV.mk e' t' xs').as e t with
        | none => rw [ha] at hd; cases hd
        | some ys =>
          rw [ha] at hd
          simp only [Option.some.injEq, Prod.mk.injEq] at hd
          obtain ⟨rfl, rfl⟩ := hd
          have := as_some ha
          cases this
          obtain ⟨Fz', R1, m, _⟩ := frz_ok R hsub [.o id']
          have hf : frz hr [.o id'] = [(id', some (.fro e t ys))] := by simp [frz, hb]
          rw [hf] at R1
          have hs1 : ∀ k ob, updF hr [(id', some (.fro e t ys))] k = some ob → updF h [(id', some (.fro e t ys))] k = some ob := fun k ob hk => by
            simp only [updF] at hk ⊢
            split at hk
            · rename_i he; rw [if_pos he]; exact hk
            · rename_i he; rw [if_neg he]; exact hsub k ob hk
          have hrd : asRead (updF hr [(id', some (.fro e t ys))]) e t (.o id') = some ys := by
            simp [asRead, slc, updF, SlV.as]
          have d := slice_sl_ok EOK R1 hs1 ho hu hty (ACRep_mono m hx) hrd hlo hhi h0 h1 h2
          have hz : frzC (updF hr [(id', some (.fro e t ys))]) (.o id') = [] := by simp [frzC, updF]
          rw [hz] at d
          obtain ⟨v, w', ρ', Fz'', d1, d2, d3, d4⟩ := d.out
          exact ⟨v, w', ρ', Fz'', d1, d2, m.trans d3, d4⟩
      | _ => cases hd
  | _ => simp [dpO] at hd
end
end Go.Sx
