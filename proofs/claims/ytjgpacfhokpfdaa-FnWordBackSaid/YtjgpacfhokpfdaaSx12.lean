/- All operations but calls. Any program. -/
import Derived.Test.YtjgpacfhokpfdaaSx25
import Derived.Test.YtjgpacfhokpfdaaSx29
import Derived.Test.YtjgpacfhokpfdaaSx30
set_option linter.unusedVariables false
set_option linter.unusedSimpArgs false
namespace Go.Sx
open Go.RowKit

section
variable {E : Env} {w0 w : World} {T Fz0 Fz U U' : Nat → Prop} {h hr : Hp} {ρ : Nat → Option Value} {o : Oper} {a : Act} {val : TV}
theorem apartC_oIds {id : Nat} : ∀ {cs : List AC}, apartC [id] cs = true → id ∉ oIds cs
  | [], _ => by simp [oIds]
  | c :: r, h => by
    cases c <;> simp only [apartC, oIds] at h ⊢ <;> try exact apartC_oIds h
    simp only [Bool.and_eq_true] at h
    intro hm
    rcases List.mem_cons.1 hm with hm | hm
    · subst hm; simp at h
    · exact apartC_oIds h.2 hm
def isFn (op : Op) : Bool := match op with
  | .call { callee := .value _, .. } => true
  | _ => false
theorem cond_some' {α : Type} {b : Bool} {x : Option α} {y : α} (h : cond b none x = some y) : b = false ∧ x = some y := by
  cases b with
  | true => cases h
  | false => exact ⟨rfl, h⟩
theorem capC_rep {x : TV} {v : Value} (hx : TVRep w ρ Fz x v) : ACRep0 w ρ Fz (capC x) v := by
  cases x with
  | tup vs => trivial
  | v av =>
    cases av with
    | agg cs => trivial
    | one c => cases c <;> first | exact hx | trivial
theorem aop_ok (EOK : EnvOk E) {call : CallF} (R : RelM w0 T Fz0 U h ρ Fz w) (hsub : ∀ id ob, hr id = some ob → h id = some ob) {ro : Operand → TV} (hops : ∀ x ∈ o.op.operands, TVRep w ρ Fz (ro x) (a.eval x)) {next : Nat} {q : SR} (hq : aop E call ro hr next o = some q)
    (hc : ∀ c ∈ q.conds, c = true) (y : el q.τ) (hnew : ∀ i ∈ (q.upd y).map (·.1), next ≤ i → ¬ U i) (hn : isFn o.op = false) :
    Done E w0 T Fz0 (fun i => U i ∨ i ∈ (q.upd y).map (·.1)) (updF h (q.upd y)) ρ Fz w o a (q.val y) := by
  unfold aop at hq
  cases hop : o.op <;> rw [hop] at hq hops hn <;> simp only at hq <;> (try (cases hq; done))
  case move x =>
    cases hq
    exact (Done.same R (by simp [execOp, hop]) (hops x (by simp [Op.operands]))).stay
  case assign x =>
    cases hq
    exact (Done.same R (by simp [execOp, hop]) (hops x (by simp [Op.operands]))).stay
  case pick c x z =>
    have hcr := hops c (by simp [Op.operands])
    split at hq
    · rename_i b hb
      rw [hb] at hcr
      have hcr : a.eval c = .bool b := hcr
      cases b <;> cases hq
      · exact (Done.same R (by simp [execOp, hop, hcr, asBool]) (hops z (by simp [Op.operands]))).stay
      · exact (Done.same R (by simp [execOp, hop, hcr, asBool]) (hops x (by simp [Op.operands]))).stay
    · cases hq
  case alloc Tt =>
    cases hz : zeroOf E Tt with
    | none => rw [hz] at hq; cases hq
    | some cs =>
      rw [hz] at hq; cases hq
      exact (alloc_ok R (hnew next (by simp [SR.now]) (Nat.le_refl _)) hop hz).weakU fun i hi => hi.imp id fun e => by simp [SR.now, e]
  case box Tt x =>
    have hx := hops x (by simp [Op.operands])
    cases hv : ro x with
    | tup vs => rw [hv] at hq; cases hq
    | v av =>
      rw [hv] at hq hx
      cases av with
      | agg cs =>
        cases hq
        obtain ⟨cv, he, hcs⟩ := hx
        exact (boxop_ok R (hnew next (by simp [SR.now]) (Nat.le_refl _)) hop (by rw [he]; exact hcs)).weakU fun i hi => hi.imp id fun e => by simp [SR.now, e]
      | one c =>
        replace hq := cond_some' hq; obtain ⟨hu, hq⟩ := hq
        cases hq
        exact (boxop_ok R (hnew next (by simp [SR.now]) (Nat.le_refl _)) hop (AV_cells (x := .one c) R hx (fun c' hc' => by cases hc'; exact hu))).weakU fun i hi => hi.imp id fun e => by simp [SR.now, e]
  case build t parts =>
    split at hq
    · rename_i fs z hu hz
      cases hpl : placesL E fs.toList with
      | none => rw [hpl] at hq; cases hq
      | some pl =>
        rw [hpl] at hq
        simp only at hq
        split at hq
        · rename_i cs hf
          cases hq
          exact (build_ok R hop hu hz hpl (fun p hp => hops p.2 (by simp only [Op.operands]; simp; exact ⟨p.1, by simpa using hp⟩)) hf).stay
        · cases hq
    · rename_i n e z hu hz
      split at hq
      · rename_i cs hf
        split at hq
        · rename_i ie hie
          cases hq
          exact (build_arr_ok R hop hu hz hie (fun p hp => hops p.2 (by simp only [Op.operands]; simp; exact ⟨p.1, by simpa using hp⟩)) hf).stay
        · cases hq
      · cases hq
    · cases hq
  case slice Tt x lo hi mx =>
    cases mx with
    | some m => cases hq
    | none =>
      have hxr := hops x (by simp [Op.operands])
      have hlr : ∀ y, lo = some y → TVRep w ρ Fz (ro y) (a.eval y) := fun y hy => hops y (by subst hy; simp [Op.operands])
      have hhr : ∀ y, hi = some y → TVRep w ρ Fz (ro y) (a.eval y) := fun y hy => hops y (by subst hy; simp [Op.operands])
      cases hct : isCut E.cuts o.dst Tt with
      | true =>
        rw [hct, cond_true] at hq
        exact cut_ok EOK R hsub y (fun hm => hnew next hm (Nat.le_refl _)) hop hxr hhr hq hc
      | false =>
      rw [hct, cond_false] at hq
      simp only [sliceSR] at hq
      split at hq
      · rename_i hu
        split at hq
        · rename_i s hs
          rw [hs] at hxr
          split at hq
          · rename_i l u hl hh
            cases hq
            have c1 := of_decide_eq_true (hc (decide (0 ≤ l)) (by simp [SR.now]))
            have c2 := of_decide_eq_true (hc (decide (l ≤ u)) (by simp [SR.now]))
            have c3 := of_decide_eq_true (hc (decide (u ≤ (s.size : Int))) (by simp [SR.now]))
            exact (slice_str_ok R hop hu hxr (bnd_ok hl hlr) (bnd_ok hh hhr) c1 c2 c3).stay
          · cases hq
        · cases hq
      · rename_i e hu
        split at hq
        · rename_i t c hty hs
          rw [hs] at hxr
          split at hq
          · rename_i xs hrd
            split at hq
            · rename_i l u hl hh
              cases hq
              have c1 := of_decide_eq_true (hc (decide (0 ≤ l)) (by simp [SR.now]))
              have c2 := of_decide_eq_true (hc (decide (l ≤ u)) (by simp [SR.now]))
              have c3 := of_decide_eq_true (hc (decide (u ≤ (xs.length : Int))) (by simp [SR.now]))
              exact (slice_sl_ok EOK R hsub hop hu hty hxr hrd (bnd_ok hl hlr) (bnd_ok hh hhr) c1 c2 c3).weakU fun i hi => .inl hi
            · cases hq
          · split at hq
            · rename_i id xs hd
              split at hq
              · rename_i l u hl hh
                cases hq
                have c1 := of_decide_eq_true (hc (decide (0 ≤ l)) (by simp [SR.now]))
                have c2 := of_decide_eq_true (hc (decide (l ≤ u)) (by simp [SR.now]))
                have c3 := of_decide_eq_true (hc (decide (u ≤ (xs.length : Int))) (by simp [SR.now]))
                exact (slice_dp_ok EOK R hsub hop hu hty hxr hd (bnd_ok hl hlr) (bnd_ok hh hhr) c1 c2 c3).weakU fun i hi => .inl hi
              · cases hq
            · cases hq
        · cases hq
      · rename_i n e hu
        split at hq
        · rename_i t id hty hs
          rw [hs] at hxr
          split at hq
          · rename_i ty cs hb
            split at hq
            · rename_i xs hd
              replace hq := cond_some hq; obtain ⟨hno, hq⟩ := hq
              cases hq
              exact (slice_arr_ok EOK R hsub hop hu hty hxr hb hd hno).weakU fun i hi => .inl hi
            · cases hq
          · cases hq
        · cases hq
      · cases hq
  case buildSlice Tt len parts =>
    cases hel : elemOf E Tt with
    | none =>
      rw [hel] at hq
      exact ptrRow_ok R hop (fun p hp => hops p.2 (by simp only [Op.operands]; simp; exact ⟨p.1, by simpa using hp⟩)) hq y fun hm => hnew next hm (Nat.le_refl _)
    | some et =>
      obtain ⟨e, t⟩ := et
      rw [hel] at hq
      simp only at hq
      cases hz : zeroOf E e with
      | none => rw [hz] at hq; cases hq
      | some z =>
        rw [hz] at hq
        simp only at hq
        split at hq
        · rename_i cs hf
          have hpp : ∀ p ∈ parts.toList, TVRep w ρ Fz (ro p.2) (a.eval p.2) := fun p hp => hops p.2 (by simp only [Op.operands]; simp; exact ⟨p.1, by simpa using hp⟩)
          cases hdeep : (isCut E.cuts o.dst Tt && (deepT t && !(flat t))) with
          | true =>
            rw [hdeep, cond_true] at hq
            split at hq
            · rename_i xs hx
              replace hq := cond_some hq; obtain ⟨hle, hq⟩ := hq
              rw [Bool.and_eq_true] at hle
              cases hq
              refine (buildDp_ok EOK R hsub (hnew next (by simp [SR.now]) (Nat.le_refl _)) hop hel hz hpp hf hx (Nat.le_of_ble_eq_true hle.1) (nodupB_nodup hle.2)).weakU fun i hi => hi.imp id fun e => ?_
              simp [SR.now, e]
            · cases hq
          | false =>
            rw [hdeep, cond_false] at hq
            split at hq
            · rename_i xs hx
              replace hq := cond_some hq; obtain ⟨hle, hq⟩ := hq
              cases hq
              refine (buildSlice_ok EOK R hsub (hnew next (by simp [SR.now]) (Nat.le_refl _)) hop hel hz hpp hf hx (Nat.le_of_ble_eq_true hle)).weakU fun i hi => hi.imp id fun e => ?_
              simp [SR.now, e]
            · cases hq
        · cases hq
  case load Tt x =>
    have hx := hops x (by simp [Op.operands])
    split at hq
    · rename_i id off hv
      rw [hv] at hx
      split at hq
      · rename_i ty cs hb
        split at hq
        · rename_i v hp
          cases hq
          exact (load_p R hop hx (hsub id _ hb) hp).stay
        · cases hq
      · cases hq
    · rename_i t z off hv
      rw [hv] at hx
      split at hq
      · rename_i v hp
        cases hq
        exact (load_pr R hop hx hp).stay
      · cases hq
    · rename_i id s i off hv
      rw [hv] at hx
      split at hq
      · rename_i e t xs hb
        replace hq := cond_some hq; obtain ⟨hs, hq⟩ := hq
        have hs := Nat.eq_of_beq_eq_true hs
        subst hs
        split at hq
        · rename_i v hp
          cases hq
          exact (load_pe R hop hx (hsub id _ hb) hp (by simpa using hc _ (List.mem_singleton.2 rfl))).stay
        · cases hq
      · rename_i e t xs hb
        replace hq := cond_some hq; obtain ⟨hs, hq⟩ := hq
        have hs := Nat.eq_of_beq_eq_true hs
        subst hs
        exact loadDp_ok R hsub hop hx hb hq hc y hnew
      · cases hq
    · cases hq
  case store Tt x z =>
    have hx := hops x (by simp [Op.operands])
    have hz := hops z (by simp [Op.operands])
    split at hq
    · rename_i id off zv hv hzv
      rw [hv] at hx
      rw [hzv] at hz
      split at hq
      · rename_i ty cs hb
        replace hq := cond_some hq; obtain ⟨hcnd, hq⟩ := hq
        cases hq
        simp only [Bool.and_eq_true, Bool.not_eq_true'] at hcnd
        obtain ⟨⟨⟨h1, h2⟩, h3⟩, h4⟩ := hcnd
        exact (store_p R hop hx (hsub id _ hb) hz (Nat.eq_of_beq_eq_true h1) (Nat.le_of_ble_eq_true h2) (Nat.le_of_ble_eq_true h3) h4).weakU fun i hi => .inl hi
      · cases hq
    · rename_i id s i off zv hv hzv
      rw [hv] at hx
      rw [hzv] at hz
      split at hq
      · rename_i e t xs hb
        replace hq := cond_some hq; obtain ⟨hcnd, hq⟩ := hq
        simp only [Bool.and_eq_true, Bool.not_eq_true'] at hcnd
        obtain ⟨⟨⟨⟨⟨⟨h0, hrd⟩, h1⟩, h2⟩, h3⟩, h4⟩, h5⟩ := hcnd
        have h0 := Nat.eq_of_beq_eq_true h0
        subst h0
        split at hq
        · rename_i zz hd
          have hi9 : i.toNat < xs.length := by cases hb9 : Nat.beq zv.cells.length (sz t) <;> rw [hb9] at hq <;> cases hq <;> simpa using hc _ (List.mem_singleton.2 rfl)
          rw [putE_eq hi9 hd] at hq
          rw [cond_same] at hq
          cases hq
          exact (store_pe R hsub hop hrd hx hb hz (Nat.eq_of_beq_eq_true h1) (Nat.le_of_ble_eq_true h2) (Nat.le_of_ble_eq_true h3) h5 (apartC_oIds h4) hd (by simpa using hc _ (List.mem_singleton.2 rfl))).weakU fun i hi => .inl hi
        · cases hq
      · rename_i e t xs hb
        replace hq := cond_some hq; obtain ⟨hcnd, hq⟩ := hq
        simp only [Bool.and_eq_true, Bool.not_eq_true'] at hcnd
        have h0 := Nat.eq_of_beq_eq_true hcnd.1
        subst h0
        exact storeDp_ok R hsub hop hx hb hz hcnd.2 hq hc y
      · cases hq
    · cases hq
  case nilCheck x =>
    have hx := hops x (by simp [Op.operands])
    split at hq
    · rename_i id off hv
      rw [hv] at hx
      cases hq
      have hx' := hx
      obtain ⟨g, hid, he⟩ := (hx' : ∃ g, ρ id = some (.pointer (some ⟨g, 0, none⟩)) ∧ a.eval x = .pointer (some ⟨g, off, none⟩))
      exact (Done.same R (v := a.eval x) (by simp [execOp, hop, he]) hx).stay
    · rename_i t z off hv
      rw [hv] at hx
      cases hq
      have hx' := hx
      obtain ⟨g, o', row, hf, he, _⟩ := (hx' : ∃ g o row, Fz g ∧ a.eval x = .pointer (some ⟨g, o + off, none⟩) ∧ (∀ j u, row[j]? = some u → w.cell? ⟨g, o + j, none⟩ = some u) ∧ KI w Fz t z row)
      exact (Done.same R (v := a.eval x) (by simp [execOp, hop, he]) hx).stay
    · rename_i id s i off hv
      rw [hv] at hx
      cases hq
      have hx' := hx
      obtain ⟨g, n, c, hid, he⟩ := (hx' : ∃ g n c, (∃ u, ρ id = some u ∧ gval u = .slice (some ⟨g, 0, none⟩) n c) ∧ a.eval x = .pointer (some ⟨g, i.toNat * s + off, none⟩))
      exact (Done.same R (v := a.eval x) (by simp [execOp, hop, he]) hx).stay
    · rename_i f caps hv
      rw [hv] at hx
      replace hq := cond_some hq; obtain ⟨hlt, hq⟩ := hq
      cases hq
      have hx' := hx
      obtain ⟨cv, he, hcv⟩ := (hx' : ∃ cv, a.eval x = fnV f cv ∧ All2 (ACRep0 w ρ Fz) caps cv.toList)
      obtain ⟨m, fi, ca, hfv⟩ : ∃ m fi ca, fnV f cv = .func (.func m) fi ca := by unfold fnV; rw [hlt]; cases (Nat.blt f bmB || Nat.beq cv.size 0) <;> exact ⟨_, _, _, rfl⟩
      rw [hfv] at he
      exact (Done.same R (v := a.eval x) (by simp [execOp, hop, he]) hx).stay
    · rename_i L t xs hv
      rw [hv] at hx
      cases hq
      obtain ⟨p, he, hl⟩ := (hx : ∃ p, [a.eval x] = [.pointer p] ∧ LkR w Fz (sz t) (fun x row => KI w Fz t x row) xs p)
      have he : a.eval x = .pointer p := by simpa using he
      have hne : xs.isEmpty = false := by simpa using hc (!xs.isEmpty) (List.mem_singleton.2 rfl)
      cases xs with
      | nil => cases hne
      | cons y r =>
        obtain ⟨g, o', row, q, rfl, hf, hlen, hcell, h1, h2⟩ := hl
        refine (Done.same R (v := a.eval x) (by simp [execOp, hop, he]) ?_).stay
        rw [he]
        exact ⟨g, o', row ++ [.pointer q], hf, rfl, hcell, row, [.pointer q], rfl, h1, q, rfl, h2⟩
    · cases hq
  case binOp op Tt x z Ty' =>
    have hx := hops x (by simp [Op.operands])
    have hz := hops z (by simp [Op.operands])
    rcases orS_some hq with hq | hq
    · exact nilEq_ok R hop hx hz hq y
    unfold binV at hq
    split at hq
    · rename_i k m k' n hv hzv
      rw [hv] at hx
      rw [hzv] at hz
      replace hq := cond_some hq; obtain ⟨hk, hq⟩ := hq
      cases hq
      exact (binI_ok R hop hx hz hk hc).stay
    · rename_i m n hv hzv
      rw [hv] at hx
      rw [hzv] at hz
      split at hq
      · rename_i hu
        split at hq <;> cases hq
        · exact (binB_ok R hop hx hz hu (.inl ⟨rfl, rfl⟩)).stay
        · exact (binB_ok R hop hx hz hu (.inr ⟨rfl, rfl⟩)).stay
      · cases hq
    · rename_i m n hv hzv
      rw [hv] at hx
      rw [hzv] at hz
      split at hq <;> cases hq
      · exact (binS_ok R hop hx hz (.inl ⟨rfl, rfl⟩)).stay
      · exact (binS_ok R hop hx hz (.inr (.inl ⟨rfl, rfl⟩))).stay
      · exact (binS_ok R hop hx hz (.inr (.inr ⟨rfl, rfl, by simpa using hc _ (List.mem_singleton.2 rfl)⟩))).stay
    · rename_i L t xs hv hzv
      rw [hv] at hx
      rw [hzv] at hz
      obtain ⟨p, he, hl⟩ := (hx : ∃ p, [a.eval x] = [.pointer p] ∧ LkR w Fz (sz t) (fun x row => KI w Fz t x row) xs p)
      have he : a.eval x = .pointer p := by simpa using he
      have hz : a.eval z = .pointer none := hz
      split at hq
      · rename_i e hu
        split at hq <;> cases hq
        · exact (lk_ok R hop hu he hz hl (.inl ⟨rfl, rfl⟩)).stay
        · exact (lk_ok R hop hu he hz hl (.inr ⟨rfl, rfl⟩)).stay
      · cases hq
    · rename_i q e t xs hv hzv
      rw [hv] at hx
      rw [hzv] at hz
      obtain ⟨_, p, n, c, he, hpq⟩ := (hx : KI w Fz (.sl e t) xs [a.eval x] ∧ ∃ p n c, a.eval x = .slice p n c ∧ p.isNone = q)
      have hz : a.eval z = .slice none 0 0 := hz
      split at hq
      · rename_i e' hu
        split at hq <;> cases hq
        · exact (slk_ok R hop hu he hz (.inl ⟨rfl, hpq.symm⟩)).stay
        · exact (slk_ok R hop hu he hz (.inr ⟨rfl, by rw [hpq]⟩)).stay
      · cases hq
    · rename_i cs cs' hv hzv
      rw [hv] at hx
      rw [hzv] at hz
      replace hq := cond_some hq; obtain ⟨hp, hq⟩ := hq
      split at hq
      · rename_i b hb
        split at hq <;> cases hq
        · exact (binA_ok R hop hx hz hp hb (.inl ⟨rfl, rfl⟩)).stay
        · exact (binA_ok R hop hx hz hp hb (.inr ⟨rfl, rfl⟩)).stay
      · cases hq
    · cases hq
  case unOp op Tt x =>
    have hx := hops x (by simp [Op.operands])
    split at hq
    · rename_i b hv
      rw [hv] at hx
      have hx : a.eval x = .bool b := hx
      cases hq
      exact (Done.same R (val := .c (.bool (!b))) (v := .bool !b) (by simp [execOp, hop, hx, Op.unary]) rfl).stay
    · rename_i k n hv
      rw [hv] at hx
      have hx : a.eval x = .int k n := hx
      cases hq
      exact (Done.same R (val := .c (.int k (k.wrap (0 - n)))) (v := .int k (k.wrap (0 - n))) (by simp [execOp, hop, hx, Op.unary, Op.intArith]) rfl).stay
    · cases hq
  case makeInterface Tt x => exact mkIface_ok R hop (hops x (by simp [Op.operands])) hq y
  case convert src dst x =>
    have hx := hops x (by simp [Op.operands])
    rcases orS_some hq with hq | hq
    · exact convSl_ok EOK R hsub hop hx hq y
    split at hq
    · rename_i k n k' d hv hu hs
      rw [hv] at hx
      have hx : a.eval x = .int k n := hx
      cases hq
      exact (Done.same R (val := .c (.int k' (k'.wrap n))) (v := .int k' (k'.wrap n)) (by simp [execOp, hop, hx, Go.convert, run_underlying hs, run_underlying hu, Conv.intToInt]) rfl).stay
    · cases hq
  case fieldAddr Tt x f =>
    have hx := hops x (by simp [Op.operands])
    split at hq
    · rename_i fd hf
      replace hq := cond_some' hq; obtain ⟨hz, hq⟩ := hq
      have hz' : E.P.cellsOf fd.type ≠ 0 := fun e => by rw [e] at hz; cases hz
      split at hq
      · rename_i id off hv
        rw [hv] at hx
        cases hq
        exact (fieldAddr_p R hop hf hz' hx).stay
      · rename_i t z off hv
        rw [hv] at hx
        cases hq
        exact (fieldAddr_pr R hop hf hz' hx).stay
      · rename_i id s i off hv
        rw [hv] at hx
        cases hq
        exact (fieldAddr_pe R hop hf hz' hx).stay
      · cases hq
    · cases hq
  case field Tt x f =>
    have hx := hops x (by simp [Op.operands])
    split at hq
    · rename_i fd cs hf hv
      rw [hv] at hx
      split at hq
      · rename_i v hp
        cases hq
        exact (field_ok R hop hf hx hp).stay
      · cases hq
    · cases hq
  case indexAddr Tt x i =>
    have hx := hops x (by simp [Op.operands])
    have hi := hops i (by simp [Op.operands])
    split at hq
    · rename_i n e hu
      split at hq
      · rename_i id off k m inf hv hiv he
        rw [hv] at hx
        rw [hiv] at hi
        cases hq
        exact (indexAddr_arr R hop hu he hx hi (by simpa using hc _ List.mem_cons_self) (by simpa using hc _ (List.mem_cons_of_mem _ List.mem_cons_self))).stay
      · cases hq
    rcases orS_some hq with hq | hq
    · exact ixSl_ok R hop hx hi hq hc y
    split at hq
    · rename_i e t c k n hel hv hiv
      rw [hv] at hx
      rw [hiv] at hi
      replace hx : ACRep w ρ Fz c (a.eval x) := hx
      split at hq
      · rename_i xs hrd
        have main : ∀ q', (q' : SR).conds = [decide (0 ≤ n), decide (n < (xs.length : Int))] → (∀ c ∈ q'.conds, c = true) → 0 ≤ n ∧ n < (xs.length : Int) := by
          intro q' hq' hcc
          rw [hq'] at hcc
          exact ⟨by simpa using hcc _ List.mem_cons_self, by simpa using hcc _ (List.mem_cons_of_mem _ List.mem_cons_self)⟩
        split at hq
        · rename_i id
          split at hq
          · rename_i e' t' xs' hob
            cases hq
            obtain ⟨h0, h1⟩ := main _ rfl hc
            exact ((indexAddr_ok EOK R hsub hop hel hx hi hrd h0 h1).1 id e' t' xs' rfl hob).stay
          · rename_i hno
            cases hq
            obtain ⟨h0, h1⟩ := main _ rfl hc
            exact ((indexAddr_ok EOK R hsub hop hel hx hi hrd h0 h1).2 (fun id' e' t' xs' hc' hob => by cases hc'; exact hno e' t' xs' hob)).stay
        · rename_i hno
          cases hq
          obtain ⟨h0, h1⟩ := main _ rfl hc
          exact ((indexAddr_ok EOK R hsub hop hel hx hi hrd h0 h1).2 (fun id' e' t' xs' hc' hob => hno id' hc')).stay
      · split at hq
        · rename_i id xs hdp
          cases hq
          exact (indexAddr_dp EOK R hsub hop hel hx hi hdp (by simpa using hc _ List.mem_cons_self) (by simpa using hc _ (List.mem_cons_of_mem _ List.mem_cons_self))).stay
        · cases hq
    · cases hq
  case index Tt x i =>
    have hx := hops x (by simp [Op.operands])
    have hi := hops i (by simp [Op.operands])
    split at hq
    · rename_i s k n hv hiv hu
      rw [hv] at hx
      rw [hiv] at hi
      cases hq
      exact (index_ok R hop hu hx hi (by simpa using hc _ List.mem_cons_self) (by simpa using hc _ (List.mem_cons_of_mem _ List.mem_cons_self))).stay
    · cases hq
  case makeSlice Tt l c =>
    have hl := hops l (by simp [Op.operands])
    have hcc := hops c (by simp [Op.operands])
    split at hq
    · rename_i e t k n k' m hel hv hcv
      rw [hv] at hl
      rw [hcv] at hcc
      cases hct : isCut E.cuts o.dst Tt && (deepT t && !(flat t)) && zeroNil E e with
      | true =>
        rw [hct] at hq
        cases hq
        have h0 : 0 ≤ n := by simpa using hc _ List.mem_cons_self
        have h1 : n ≤ m := by simpa using hc _ (List.mem_cons_of_mem _ List.mem_cons_self)
        have h2 : m.toNat * E.P.bytesOf e ≤ 140737488351232 := by simpa using hc _ (List.mem_cons_of_mem _ (List.mem_cons_of_mem _ List.mem_cons_self))
        rw [Bool.and_eq_true, Bool.and_eq_true, Bool.and_eq_true] at hct
        exact (make_dp_ok (n := n) (cp := m) (kl := k) (kc := k') EOK R (hnew next (by simp [SR.now]) (Nat.le_refl _)) hop hel hl hcc h0 h1 h2 hct.1.2.1 hct.2).weakU fun i hi => hi.imp id fun e => by simp [SR.now, e]
      | false =>
      rw [hct] at hq
      cases hq
      have h0 : 0 ≤ n := by simpa using hc _ List.mem_cons_self
      have h1 : n ≤ m := by simpa using hc _ (List.mem_cons_of_mem _ List.mem_cons_self)
      have h2 : m.toNat * E.P.bytesOf e ≤ 140737488351232 := by simpa using hc _ (List.mem_cons_of_mem _ (List.mem_cons_of_mem _ List.mem_cons_self))
      exact (make_ok (n := n) (cp := m) (kl := k) (kc := k') EOK R (hnew next (by simp [SR.now]) (Nat.le_refl _)) hop hel hl hcc h0 h1 h2).weakU fun i hi => hi.imp id fun e => by simp [SR.now, e]
    · cases hq
  case makeMap Tt r =>
    cases r with
    | some x => cases hq
    | none =>
      rcases orS_some hq with hq | hq
      · exact (makeMap_ok EOK R hsub y (fun hm => hnew next hm (Nat.le_refl _)) hop hq)
      · exact (makeMq_ok R y (fun hm => hnew next hm (Nat.le_refl _)) hop hq)
  case mapUpdate Tt m k x => exact mapUpdate_ok EOK R hsub y hop (hops m (by simp [Op.operands])) (hops k (by simp [Op.operands])) (hops x (by simp [Op.operands])) hq hc
  case mapEntry Tt m k => exact mapEntry_ok EOK R hsub y hop (hops m (by simp [Op.operands])) (hops k (by simp [Op.operands])) hq hc
  case entryStore Tt m s x => exact entryStore_ok EOK R hsub y hop (hops m (by simp [Op.operands])) (hops s (by simp [Op.operands])) (hops x (by simp [Op.operands])) hq hc
  case lookup Tt m k b =>
    cases b with
    | true => cases hq
    | false =>
      rcases orS_some hq with hq | hq
      · exact lookup_ok EOK R hsub y hop (hops m (by simp [Op.operands])) (hops k (by simp [Op.operands])) hq hc
      · exact lookupMq_ok EOK R y hop (hops m (by simp [Op.operands])) (hops k (by simp [Op.operands])) hq hc
  case extract x i =>
    have hx := hops x (by simp [Op.operands])
    split at hq
    · rename_i vs hv
      rw [hv] at hx
      split at hq
      · rename_i av hav
        cases hq
        obtain ⟨tv, he, htv⟩ := hx
        obtain ⟨u, hu, hrep⟩ := htv.get hav
        have hu' : tv[i]? = some u := by simpa using hu
        exact (Done.same R (val := .v av) (v := u) (by simp [execOp, hop, he, Instr.extract, hu']) hrep).stay
      · cases hq
    · cases hq
  case makeFunc fn first caps =>
    split at hq
    · rename_i f
      have hall : ∀ l : List Operand, (∀ x ∈ l, TVRep w ρ Fz (ro x) (a.eval x)) → All2 (ACRep0 w ρ Fz) (l.map fun x => capC (ro x)) (l.map a.eval) := by
        intro l hl
        induction l with
        | nil => trivial
        | cons x l ih => exact ⟨capC_rep (hl x List.mem_cons_self), ih fun y hy => hl y (List.mem_cons_of_mem _ hy)⟩
      cases hf : (Nat.beq first.size 0 && Nat.blt f bmB) with
      | true =>
        rw [hf, cond_true] at hq
        cases hq
        rw [Bool.and_eq_true] at hf
        have hf0 : first = #[] := Array.eq_empty_of_size_eq_zero (Nat.eq_of_beq_eq_true hf.1)
        subst hf0
        have hcaps : All2 (ACRep0 w ρ Fz) (caps.toList.map fun x => capC (ro x)) (caps.map a.eval).toList := by
          rw [Array.toList_map]
          exact hall caps.toList fun x hx => hops x (by simp only [Op.operands]; simpa using hx)
        exact (Done.same R (val := .c (.fn f _)) (v := .func (.func f) #[] (caps.map a.eval)) (by simp [execOp, hop, Instr.makeFunc]) ⟨_, (fnV_lt hf.2).symm, hcaps⟩).stay
      | false =>
        rw [hf, cond_false] at hq
        replace hq := cond_some hq; obtain ⟨hc0, hq⟩ := hq
        cases hq
        rw [Bool.and_eq_true, Bool.and_eq_true] at hc0
        have hf0 : caps = #[] := Array.eq_empty_of_size_eq_zero (Nat.eq_of_beq_eq_true hc0.1.1)
        subst hf0
        have hne : Nat.beq (first.map a.eval).size 0 = false := by rw [Array.size_map]; simpa using hc0.1.2
        have hfirst : All2 (ACRep0 w ρ Fz) (first.toList.map fun x => capC (ro x)) (first.map a.eval).toList := by
          rw [Array.toList_map]
          exact hall first.toList fun x hx => hops x (by simp only [Op.operands]; simpa using hx)
        exact (Done.same R (val := .c (.fn (f + bmB) _)) (v := .func (.func f) (first.map a.eval) #[]) (by simp [execOp, hop, Instr.makeFunc]) ⟨_, (fnV_bm hne hc0.2).symm, hfirst⟩).stay
    · cases hq
  case call c =>
    obtain ⟨callee, args, argTypes⟩ := c
    cases callee with
    | value f => simp [isFn] at hn
    | invoke r m => cases hq
    | builtin b =>
      cases b <;> simp only at hq <;> (try (cases hq; done))
      case len =>
        split at hq
        · rename_i x Tt hxl htl
          have ha : args = #[x] := by apply Array.toList_inj.1; simpa using hxl
          have ht : argTypes = #[Tt] := by apply Array.toList_inj.1; simpa using htl
          subst ha; subst ht
          have hx := hops x (by simp [Op.operands, Call.operands])
          split at hq
          · rename_i e c hu hv
            rw [hv] at hx
            split at hq
            · rename_i n hl
              cases hq
              exact (len_ok R hsub hop hx hl hu).stay
            · cases hq
          · rename_i s hu hv
            rw [hv] at hx
            cases hq
            exact (slen_ok R hop hx hu).stay
          · cases hq
        · cases hq
      case min =>
        split at hq
        · rename_i x z hxl
          have ha : args = #[x, z] := by apply Array.toList_inj.1; simpa using hxl
          subst ha
          have hx := hops x (by simp [Op.operands, Call.operands])
          have hz := hops z (by simp [Op.operands, Call.operands])
          split at hq
          · rename_i k m k' n hv hzv
            rw [hv] at hx
            rw [hzv] at hz
            cases hq
            have hx : a.eval x = .int k m := hx
            have hz : a.eval z = .int k' n := hz
            refine (Done.same (val := .v (.one (.int k (imin m n)))) R (v := .int k (imin m n)) ?_ rfl).stay
            unfold imin
            by_cases hlt : n < m
            · simp [execOp, hop, resolve, invoke, builtin, hx, hz, Builtin.min_, Builtin.min2, hlt]
            · simp [execOp, hop, resolve, invoke, builtin, hx, hz, Builtin.min_, Builtin.min2, hlt]
          · cases hq
        · cases hq
      case cap =>
        split at hq
        · rename_i x Tt hxl htl
          have ha : args = #[x] := by apply Array.toList_inj.1; simpa using hxl
          have ht : argTypes = #[Tt] := by apply Array.toList_inj.1; simpa using htl
          subst ha; subst ht
          have hx := hops x (by simp [Op.operands, Call.operands])
          split at hq
          · rename_i e hu hv
            rw [hv] at hx
            cases hq
            have hx : a.eval x = .slice none 0 0 := hx
            exact (Done.same (val := .v (.one (.int .i64 0))) R (v := .int .i64 0) (by simp [execOp, hop, resolve, invoke, builtin, hx, Builtin.cap_, run_underlying hu, goInt]) rfl).stay
          · cases hq
        · cases hq
      case append =>
        split at hq
        · rename_i s x Tt Tt' hxl htl
          have ha : args = #[s, x] := by apply Array.toList_inj.1; simpa using hxl
          have ht : argTypes = #[Tt, Tt'] := by apply Array.toList_inj.1; simpa using htl
          subst ha; subst ht
          cases hT : Nat.beq Tt Tt' with
          | false =>
            rw [hT, cond_false] at hq
            have hnx : next ∈ (q.upd y).map (·.1) := by
              unfold appZ at hq
              split at hq
              · split at hq
                · cases hq; simp [SR.now]
                · cases hq
              · cases hq
            exact (appZ_ok EOK R (hnew next hnx (Nat.le_refl _)) hop (hops s (by simp [Op.operands, Call.operands])) (hops x (by simp [Op.operands, Call.operands])) hq hc y).weakU fun i hi => hi.imp id fun e => by rw [e]; exact hnx
          | true =>
          rw [hT, cond_true] at hq
          have hT := Nat.eq_of_beq_eq_true hT
          subst hT
          have hs := hops s (by simp [Op.operands, Call.operands])
          have hx := hops x (by simp [Op.operands, Call.operands])
          cases hA : appSR E hr next Tt (ro s) (ro x) with
          | some q0 =>
            rw [hA] at hq
            obtain rfl : q0 = q := Option.some.inj hq
            replace hq := hA
            have hnx : next ∈ (q0.upd y).map (·.1) := by
              clear hc
              unfold appSR at hq
              split at hq
              · split at hq
                · split at hq
                  · cases hq; simp [SR.now]
                  · cases hq
                · cases hq
              · cases hq
            exact (app_ok (ty := 0) EOK R hsub (hnew next hnx (Nat.le_refl _)) hop hs hx hq hc y).weakU fun i hi => hi.imp id fun e => by rw [e]; exact hnx
          | none =>
            rw [hA] at hq
            have hq : appDpSR E hr next Tt (ro s) (ro x) = some q := hq
            have hnx : next ∈ (q.upd y).map (·.1) := by
              clear hc
              unfold appDpSR at hq
              split at hq
              · split at hq
                · replace hq := (cond_some hq).2
                  split at hq
                  · cases hq; simp [SR.now]
                  · cases hq
                · cases hq
              · cases hq
            exact (appDp_ok EOK R hsub (hnew next hnx (Nat.le_refl _)) hop hs hx hq hc y).weakU fun i hi => hi.imp id fun e => by rw [e]; exact hnx
        · cases hq
      case copy =>
        split at hq
        · rename_i s x Tt Tt' hxl htl
          have ha : args = #[s, x] := by apply Array.toList_inj.1; simpa using hxl
          have ht : argTypes = #[Tt, Tt'] := by apply Array.toList_inj.1; simpa using htl
          subst ha; subst ht
          exact copy_ok EOK R hsub y hop (hops s (by simp [Op.operands, Call.operands])) (hops x (by simp [Op.operands, Call.operands])) hq
        · cases hq
end
end Go.Sx
