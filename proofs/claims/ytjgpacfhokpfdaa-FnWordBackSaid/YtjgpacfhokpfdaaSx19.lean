/- A function's code, and what it answers. Any program. -/
import Derived.Test.YtjgpacfhokpfdaaSx18
import Derived.LoopN
import Derived.Scope
import Derived.Laws.Sem
set_option linter.unusedVariables false
set_option linter.unusedSimpArgs false
namespace Go.Sx
open Go.RowKit

section
variable {E : Env} {w0 w w' : World} {T Fz0 Fz Fz' : Nat → Prop} {h h' : HpL} {ρ ρ' ρ0 : Nat → Option Value} {a : Act} {s s' : Tm} {call : CallF}
def exOf : Sig → Exit
  | .next => .normal
  | .exit i => .exit i
  | .ret => .ret
theorem run_ok {R : Type} (EOK : EnvOk E) (FOK : FnsOk E) (hmix : E.P.follows .mixedOrders = true) (hcall : CallOk E call) {f m k : Nat} (hm : ∀ i v, ρ0 i = some v → i < m) : ∀ (c : Code) {s : Tm} {h : HpL} {K : Kt R} {r : R} {a : Act} {w : World} {Q : Exit → Act → World → Prop},
    run E call f m k c s h K = some r → StR w0 T Fz0 ρ0 s h a w → (∀ sig s' h' a' w', K sig s' h' = some r → StR w0 T Fz0 ρ0 s' h' a' w' → Q (exOf sig) a' w') → c.wp E.P Q a w := by
  intro c
  induction c with
  | skip => intro s h K r a w Q hk st hn; exact wp_skip (hn .next _ _ _ _ hk st)
  | label l => intro s h K r a w Q hk st hn; exact wp_label (hn .next _ _ _ _ hk st)
  | exit id => intro s h K r a w Q hk st hn; exact wp_exit (hn (.exit id) _ _ _ _ hk st)
  | ret => intro s h K r a w Q hk st hn; exact wp_ret (hn .ret _ _ _ _ hk st)
  | goto l => intro s h K r a w Q hk st hn; cases hk
  | rangeFunc f p b c ih1 ih2 => intro s h K r a w Q hk st hn; cases hk
  | refuse => intro s h K r a w Q hk st hn; cases hk
  | region id ops draw =>
    intro s h K r a w Q hk st hn
    cases draw with
    | true =>
      obtain ⟨hb, hk⟩ := cond_some (show cond (befOk (beforeM ops.toList []) 0) _ none = some r from hk)
      obtain ⟨h1, hk, hh, hl, hi⟩ := updK_some hk
      replace st := StR_frz st hh hl
      exact drawn_ok EOK FOK hcall hmix hb hk st fun s' h' a' w' hk' st' => by
        obtain ⟨h2, hk2, st2⟩ := joinK_ok hk' st'
        exact hn .next _ _ _ _ hk2 st2
    | false =>
      refine wp_region ?_
      have := runOps_ok (ops := ops) (Q := Q) EOK FOK hcall (fun s' h' a' w' hk' st' => by
        obtain ⟨h2, hk2, st2⟩ := joinK_ok hk' st'
        exact hn .next _ _ _ _ hk2 st2) ops.toList 0 s h a w (fun k => by simp) hk st
      rw [Array.length_toList] at this
      rw [List.range_eq_range']
      exact this
  | seq x y ihx ihy =>
    intro s h K r a w Q hk st hn
    refine wp_seq (ihx (K := kSeq (fun s h => run E call f m k y s h K) K) hk st fun sig s' h' a' w' hk' st' => ?_)
    cases sig with
    | next => exact ihy hk' st' hn
    | exit i => exact hn (.exit i) _ _ _ _ hk' st'
    | ret => exact hn .ret _ _ _ _ hk' st'
  | cond c x y ihx ihy =>
    intro s h K r a w Q hk st hn
    have hk2 : (match evl (tmf s) c with
      | .v (.one (.bool q)) => match q with
        | true => run E call f m k x s h K
        | false => run E call f m k y s h K
      | _ => none) = some r := hk
    split at hk2
    · rename_i q hq
      have hc : a.eval c = .bool q := by
        obtain ⟨ρ, Fz, Rm, st, pin⟩ := st
        have := evl_rep st c
        rw [hq] at this
        exact this
      cases q with
      | true => exact wp_cond hc (ihx hk2 st hn)
      | false => exact wp_cond hc (ihy hk2 st hn)
    · cases hk2
  | block id b ih =>
    intro s h K r a w Q hk st hn
    refine wp_block (ih (K := kBlock id K) hk st fun sig s' h' a' w' hk' st' => ?_)
    cases sig with
    | next => exact hn .next _ _ _ _ hk' st'
    | exit i =>
      have hk2 : cond (Nat.beq i id) (K .next s' h') (K (.exit i) s' h') = some r := hk'
      show if i = id then Q .normal a' w' else Q (.exit i) a' w'
      cases hb : Nat.beq i id with
      | true => rw [hb] at hk2; rw [if_pos (Nat.eq_of_beq_eq_true hb)]; exact hn .next _ _ _ _ hk2 st'
      | false => rw [hb] at hk2; rw [if_neg (Nat.ne_of_beq_eq_false hb)]; exact hn (.exit i) _ _ _ _ hk2 st'
    | ret => exact hn .ret _ _ _ _ hk' st'
  | scope b ih =>
    intro s h K r a w Q hk st hn
    refine wp_scope_straight (ih (K := K) hk st fun sig s' h' a' w' hk' st' => ?_)
    cases sig with
    | next => exact hn .next _ _ _ _ hk' st'
    | exit i => exact hn (.exit i) _ _ _ _ hk' st'
    | ret => exact hn .ret _ _ _ _ hk' st'
  | loop b ih =>
    intro s h K r a w Q hk st hn
    have hk2 : canonK E.btys m (E.keep f (firstReg b)) s h (fun s h => loopRun E.btys m (E.keep f (firstReg b)) (run E call f m k b) (k + E.unr f (firstReg b)) s h K) = some r := hk
    obtain ⟨s1, h1, hk2, st⟩ := canonK_ok hm hk2 st
    have key : ∀ (n : Nat) (s : Tm) (h : HpL) (a : Act) (w : World), loopRun E.btys m (E.keep f (firstReg b)) (run E call f m k b) n s h K = some r → StR w0 T Fz0 ρ0 s h a w → Code.rounds E.P b Q n a w := by
      intro n
      induction n with
      | zero => intro s h a w hk _; cases hk
      | succ n ihn =>
        intro s h a w hk st
        rw [rounds_succ]
        refine ih (K := kLoop E.btys m (E.keep f (firstReg b)) (fun s h => loopRun E.btys m (E.keep f (firstReg b)) (run E call f m k b) n s h K) K) hk st fun sig s' h' a' w' hk' st' => ?_
        cases sig with
        | next =>
          obtain ⟨s2, h2, hk2, st2⟩ := canonK_ok hm hk' st'
          exact ihn s2 h2 a' w' hk2 st2
        | exit i => exact hn (.exit i) _ _ _ _ hk' st'
        | ret => exact hn .ret _ _ _ _ hk' st'
    exact wp_loop_rounds (k + E.unr f (firstReg b)) (key _ s1 h1 a w hk2 st)

/-! ### what is answered -/
def rGet (tmps : Array Value) : ResultVar → Sem Value
  | .tmp t => pure (tmps.getD t undef)
  | .cell x t => do loadVar t (← asAddr (tmps.getD x undef))
theorem res_run (Rm : RelM w0 T Fz0 (fun i => i < h.length) (hpf h) ρ Fz w) (st : StT w ρ Fz (tmf s) s.length a) : ∀ (l : List ResultVar) (vs : List AV), resOf E s h l = some vs →
    ∃ us : List Value, All2 (AVRep w ρ Fz) vs us ∧ (l.mapM (rGet a.tmps)).run E.P w = .ok us w
  | [], vs, hr => by
    cases hr
    exact ⟨[], trivial, by simp⟩
  | .tmp t :: r, vs, hr => by
    simp only [resOf] at hr
    split at hr
    · rename_i x cs hx hcs
      cases hr
      obtain ⟨us, h1, h2⟩ := res_run Rm st r cs hcs
      have hv := st.rep t
      rw [hx] at hv
      refine ⟨_ :: us, ⟨hv, h1⟩, ?_⟩
      simp only [List.mapM_cons, Sem.run_bind, Sem.run_pure, Result.andThen_ok, h2, rGet]
    · cases hr
  | .cell x Tt :: r, vs, hr => by
    simp only [resOf] at hr
    split at hr
    · rename_i id off hx
      split at hr
      · rename_i ty cs cs' hb hcs
        split at hr
        · rename_i v hp
          cases hr
          obtain ⟨us, h1, h2⟩ := res_run Rm st r cs' hcs
          have hv := st.rep x
          rw [hx] at hv
          obtain ⟨g, hid, he⟩ := (hv : ∃ g, ρ id = some (.pointer (some ⟨g, 0, none⟩)) ∧ a.tmps.getD x undef = .pointer (some ⟨g, off, none⟩))
          obtain ⟨pv, hpv, g', cv, rfl, hg, hc⟩ := Rm.objs id _ hb
          rw [hid] at hpv; cases hpv
          obtain ⟨u, hu, hrep⟩ := load_part hp (cells_of_blk hg) hc
          rw [Nat.zero_add] at hu
          refine ⟨u :: us, ⟨hrep, h1⟩, ?_⟩
          have hc' : ((asAddr (a.tmps.getD x undef) >>= fun ad => loadVar Tt ad) : Sem Value).run E.P w = .ok u w := by rw [he]; exact hu
          rw [List.mapM_cons, Sem.run_bind]
          show Result.andThen (((asAddr (a.tmps.getD x undef) >>= fun ad => loadVar Tt ad) : Sem Value).run E.P w) _ = _
          rw [hc']
          simp only [Result.andThen_ok, Sem.run_bind, h2, Sem.run_pure]
        · cases hr
      · cases hr
    · cases hr
theorem results_ok (Rm : RelM w0 T Fz0 (fun i => i < h.length) (hpf h) ρ Fz w) (st : StT w ρ Fz (tmf s) s.length a) {fn : Func} {vs : List AV} (hr : resOf E s h fn.results.toList = some vs) :
    ∃ us : List Value, All2 (AVRep w ρ Fz) vs us ∧ (results fn a.tmps).run E.P w = .ok (packV us) w := by
  obtain ⟨us, h1, h2⟩ := res_run Rm st _ _ hr
  refine ⟨us, h1, ?_⟩
  have e : fn.results = fn.results.toList.toArray := by simp
  show Sem.run E.P (fn.results.mapM (rGet a.tmps) >>= fun vs => pure (if h : vs.size = 1 then vs[0] else .tuple vs)) w = _
  rw [e, List.mapM_toArray]
  simp only [Sem.run_bind, Sem.run_map, h2, Result.andThen_ok]
  match us with
  | [] => rfl
  | [u] => rfl
  | u :: u' :: us => rfl
theorem forms_pack : ∀ {ts : List Ty} {vs : List AV} {us : List Value}, formsOk ts vs = true → All2 (AVRep w ρ Fz) vs us → ∃ cs, PackL ts us cs ∧ All2 (ACRep w ρ Fz) (vs.flatMap AV.cells) cs
  | [], [], [], _, _ => ⟨[], rfl, trivial⟩
  | t :: ts, .agg acs :: vs, u :: us, hf, ha => by
    simp only [formsOk, Bool.and_eq_true] at hf
    obtain ⟨⟨h1, h2⟩, h3⟩ := hf
    obtain ⟨⟨cv, rfl, hc⟩, ha⟩ := ha
    obtain ⟨cs, hp, hcs⟩ := forms_pack h3 ha
    refine ⟨cv.toList ++ cs, ⟨cv.toList, cs, rfl, ?_, .inl ⟨h1, by simp⟩, hp⟩, hc.app hcs⟩
    rw [← hc.len]; exact Nat.eq_of_beq_eq_true h2
  | t :: ts, .one c :: vs, u :: us, hf, ha => by
    simp only [formsOk, Bool.and_eq_true, Bool.not_eq_true'] at hf
    obtain ⟨⟨h1, h2⟩, h3⟩ := hf
    obtain ⟨hc, ha⟩ := ha
    obtain ⟨cs, hp, hcs⟩ := forms_pack h3 ha
    exact ⟨[u] ++ cs, ⟨[u], cs, rfl, (Nat.eq_of_beq_eq_true h2).symm, .inr ⟨h1, rfl⟩, hp⟩, ⟨hc, hcs⟩⟩
  | [], _ :: _, _, hf, _ => by cases hf
  | _ :: _, [], _, hf, _ => by cases hf
  | [], [], _ :: _, _, ha => ha.elim
  | _ :: _, _ :: _, [], _, ha => ha.elim
theorem out_ok (Rm : RelM w0 T Fz0 (fun i => i < h.length) (hpf h) ρ Fz w) {h0 : HpL} {Fz1 : Nat → Prop} {w1 : World} (hobj : ∀ i ty cs, h0.getD i none = some (.box ty cs) → ∃ g, ρ0 i = some (.pointer (some ⟨g, 0, none⟩))) (pin : Pin ρ0 ρ) :
    ∀ (l : HpL) (i : Nat) (acs : List AC), (∀ j, l[j]? = h0[i + j]?) → outOf h i l = some acs → ∃ bs, BoxOut w ρ0 i l bs ∧ All2 (ACRep w ρ Fz) acs bs ∧ ∀ j ty cs, l[j]? = some (some (.box ty cs)) → ∃ cs', hpf h (i + j) = some (.box ty cs')
  | [], i, acs, _, ho => by cases ho; exact ⟨[], rfl, trivial, (by intro j ty cs hj; cases hj)⟩
  | none :: r, i, acs, hl, ho => by
    obtain ⟨bs, h1, h2, h3⟩ := out_ok Rm (h0 := h0) (Fz1 := Fz1) (w1 := w1) hobj pin r (i + 1) acs (fun j => by have := hl (j + 1); rw [List.getElem?_cons_succ] at this; rw [this]; congr 1; omega) ho
    refine ⟨bs, h1, h2, fun j ty cs hj => ?_⟩
    cases j with
    | zero => cases hj
    | succ j => have := h3 j ty cs (by simpa using hj); rwa [show i + 1 + j = i + (j + 1) from by omega] at this
  | some (.own e t xs) :: r, i, acs, hl, ho => by
    obtain ⟨bs, h1, h2, h3⟩ := out_ok Rm (h0 := h0) (Fz1 := Fz1) (w1 := w1) hobj pin r (i + 1) acs (fun j => by have := hl (j + 1); rw [List.getElem?_cons_succ] at this; rw [this]; congr 1; omega) ho
    refine ⟨bs, h1, h2, fun j ty cs hj => ?_⟩
    cases j with
    | zero => cases hj
    | succ j => have := h3 j ty cs (by simpa using hj); rwa [show i + 1 + j = i + (j + 1) from by omega] at this
  | some (.fro e t xs) :: r, i, acs, hl, ho => by
    obtain ⟨bs, h1, h2, h3⟩ := out_ok Rm (h0 := h0) (Fz1 := Fz1) (w1 := w1) hobj pin r (i + 1) acs (fun j => by have := hl (j + 1); rw [List.getElem?_cons_succ] at this; rw [this]; congr 1; omega) ho
    refine ⟨bs, h1, h2, fun j ty cs hj => ?_⟩
    cases j with
    | zero => cases hj
    | succ j => have := h3 j ty cs (by simpa using hj); rwa [show i + 1 + j = i + (j + 1) from by omega] at this
  | some (.mp T n es) :: r, i, acs, hl, ho => by
    obtain ⟨bs, h1, h2, h3⟩ := out_ok Rm (h0 := h0) (Fz1 := Fz1) (w1 := w1) hobj pin r (i + 1) acs (fun j => by have := hl (j + 1); rw [List.getElem?_cons_succ] at this; rw [this]; congr 1; omega) ho
    refine ⟨bs, h1, h2, fun j ty cs hj => ?_⟩
    cases j with
    | zero => cases hj
    | succ j => have := h3 j ty cs (by simpa using hj); rwa [show i + 1 + j = i + (j + 1) from by omega] at this
  | some (.mq T n es) :: r, i, acs, hl, ho => by
    obtain ⟨bs, h1, h2, h3⟩ := out_ok Rm (h0 := h0) (Fz1 := Fz1) (w1 := w1) hobj pin r (i + 1) acs (fun j => by have := hl (j + 1); rw [List.getElem?_cons_succ] at this; rw [this]; congr 1; omega) ho
    refine ⟨bs, h1, h2, fun j ty cs hj => ?_⟩
    cases j with
    | zero => cases hj
    | succ j => have := h3 j ty cs (by simpa using hj); rwa [show i + 1 + j = i + (j + 1) from by omega] at this
  | some (.dp T n es) :: r, i, acs, hl, ho => by
    obtain ⟨bs, h1, h2, h3⟩ := out_ok Rm (h0 := h0) (Fz1 := Fz1) (w1 := w1) hobj pin r (i + 1) acs (fun j => by have := hl (j + 1); rw [List.getElem?_cons_succ] at this; rw [this]; congr 1; omega) ho
    refine ⟨bs, h1, h2, fun j ty cs hj => ?_⟩
    cases j with
    | zero => cases hj
    | succ j => have := h3 j ty cs (by simpa using hj); rwa [show i + 1 + j = i + (j + 1) from by omega] at this
  | some (.dh T n es a b c) :: r, i, acs, hl, ho => by
    obtain ⟨bs, h1, h2, h3⟩ := out_ok Rm (h0 := h0) (Fz1 := Fz1) (w1 := w1) hobj pin r (i + 1) acs (fun j => by have := hl (j + 1); rw [List.getElem?_cons_succ] at this; rw [this]; congr 1; omega) ho
    refine ⟨bs, h1, h2, fun j ty cs hj => ?_⟩
    cases j with
    | zero => cases hj
    | succ j => have := h3 j ty cs (by simpa using hj); rwa [show i + 1 + j = i + (j + 1) from by omega] at this
  | some (.box ty cs0) :: r, i, acs, hl, ho => by
    simp only [outOf] at ho
    split at ho
    · rename_i ty' cs cs' hb hcs
      obtain ⟨hc, ho⟩ := cond_some ho
      cases ho
      simp only [Bool.and_eq_true] at hc
      have hty := Nat.eq_of_beq_eq_true hc.1
      have hlen := Nat.eq_of_beq_eq_true hc.2
      subst hty
      obtain ⟨bs, h1, h2, h3⟩ := out_ok Rm (h0 := h0) (Fz1 := Fz1) (w1 := w1) hobj pin r (i + 1) cs' (fun j => by have := hl (j + 1); rw [List.getElem?_cons_succ] at this; rw [this]; congr 1; omega) hcs
      have h0i : h0.getD i none = some (.box ty cs0) := by
        have := hl 0
        rw [List.getElem?_cons_zero, Nat.add_zero] at this
        rw [List.getD_eq_getElem?_getD, ← this]; rfl
      obtain ⟨g, hg⟩ := hobj i ty cs0 h0i
      obtain ⟨v, hv, g', cv, rfl, hgc, hcv⟩ := Rm.objs i _ hb
      rw [(pin i _ hg).ptr] at hv
      cases hv
      refine ⟨cv.toList ++ bs, ⟨g, cv, bs, hg, hgc, ?_, rfl, h1⟩, hcv.app h2, fun j ty' cs1 hj => ?_⟩
      · rw [← hlen, hcv.len, Array.length_toList]
      · cases j with
        | zero =>
          simp only [List.getElem?_cons_zero, Option.some.injEq, Obj.box.injEq] at hj
          rw [← hj.1]
          exact ⟨cs, hb⟩
        | succ j => have := h3 j ty' cs1 (by simpa using hj); rwa [show i + 1 + j = i + (j + 1) from by omega] at this
    · cases ho
end
end Go.Sx
