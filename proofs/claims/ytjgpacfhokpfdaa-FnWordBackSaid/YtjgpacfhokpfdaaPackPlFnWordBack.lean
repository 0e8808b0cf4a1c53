/- Words as bytes: the reference and the program write the same. -/
import Derived.Test.YtjgpacfhokpfdaaWordPlFnWordBack
import Derived.Test.YtjgpacfhokpfdaaOkPlFnWordBack
set_option linter.unusedVariables false
set_option linter.unusedSimpArgs false
namespace Go.Proofs.Ytjgpacfhokpfdaa.SFnWordBack
open Go Go.Sx Go.Pl
/-- A number by sevens of bits, the lowest first. -/
def enc (u : Nat) : List Int := if u < 128 then [(u : Int)] else ((128 + u % 128 : Nat) : Int) :: enc (u / 128)
termination_by u
decreasing_by omega

theorem enc_small {u : Nat} (h : u < 128) : enc u = [(u : Int)] := by rw [enc, if_pos h]

theorem enc_big {u : Nat} (h : ¬ u < 128) : enc u = ((128 + u % 128 : Nat) : Int) :: enc (u / 128) := by rw [enc, if_neg h]

theorem enc_len : ∀ (n u : Nat), u < 128 ^ (n + 1) → (enc u).length ≤ n + 1
  | 0, u, h => by rw [enc_small (by simpa using h)]; simp
  | n + 1, u, h => by
    by_cases hu : u < 128
    · rw [enc_small hu]; simp
    · rw [enc_big hu, List.length_cons]
      have : u / 128 < 128 ^ (n + 1) := by
        refine Nat.div_lt_of_lt_mul ?_
        rw [Nat.pow_succ, Nat.mul_comm] at h
        exact h
      have := enc_len n (u / 128) this
      omega

def NumI (v : Int) : Prop := -1 ≤ v ∧ v ≤ 1000000000
def encs (l : List Int) : List Int := l.flatMap fun v => enc (v + 1).toNat

theorem num_len {v : Int} (h : NumI v) : (enc (v + 1).toNat).length ≤ 5 := by
  obtain ⟨h1, h2⟩ := h
  exact enc_len 4 _ (by omega)

theorem encs_take (l : List Int) (i : Nat) (h : i < l.length) (d : Int) : encs (l.take (i + 1)) = encs (l.take i) ++ enc (l.getD i d + 1).toNat := by
  unfold encs
  rw [List.take_succ_eq_append_getElem h, List.flatMap_append]
  have : l.getD i d = l[i] := by rw [List.getD_eq_getElem?_getD, List.getElem?_eq_getElem h]; rfl
  rw [this]
  simp

theorem encs_len {l : List Int} (h : ∀ v ∈ l, NumI v) : (encs l).length ≤ 5 * l.length := by
  induction l with
  | nil => simp [encs]
  | cons x l ih =>
    have h1 := num_len (h x List.mem_cons_self)
    have h2 := ih fun v hv => h v (List.mem_cons_of_mem _ hv)
    unfold encs at *
    rw [List.flatMap_cons, List.length_append, List.length_cons]
    omega

theorem take_mem {l : List Int} {P : Int → Prop} (h : ∀ v ∈ l, P v) (i : Nat) : ∀ v ∈ l.take i, P v := fun v hv => h v (List.mem_of_mem_take hv)

theorem getN {l : List Int} {P : Int → Prop} (h : ∀ v ∈ l, P v) (i : Nat) (hi : i < l.length) (d : Int) : P (l.getD i d) := by
  rw [List.getD_eq_getElem?_getD, List.getElem?_eq_getElem hi]
  exact h _ (List.getElem_mem hi)

theorem wu8 {x : Int} (h0 : 0 ≤ x) (h1 : x < 256) : IntKind.u8.wrap x = x := by
  have h : IntKind.u8.wrap x = x % 256 := by
    unfold IntKind.wrap
    simp [IntKind.signed, IntKind.bits]
  rw [h]; omega

theorem wu64 {x : Int} (h0 : 0 ≤ x) (h1 : x < 18446744073709551616) : IntKind.u64.wrap x = x := by
  have h : IntKind.u64.wrap x = x % 18446744073709551616 := by
    unfold IntKind.wrap
    simp [IntKind.signed, IntKind.bits]
  rw [h]; omega

theorem or128 : ∀ w : Fin 128, (BitVec.ofInt 8 (w.val : Int) ||| BitVec.ofInt 8 128).toNat = 128 + w.val := by decide

theorem bit_byte {u : Nat} (h : u ≤ 2000000000) :
    IntKind.u8.wrap (((BitVec.ofInt IntKind.u8.bits (IntKind.u8.wrap (IntKind.u64.wrap (((BitVec.ofInt IntKind.u64.bits (u : Int) &&& BitVec.ofInt IntKind.u64.bits 127).toNat : Nat) : Int))) ||| BitVec.ofInt IntKind.u8.bits 128).toNat : Nat) : Int) = ((128 + u % 128 : Nat) : Int) := by
  have e1 : (BitVec.ofInt IntKind.u64.bits (u : Int) &&& BitVec.ofInt IntKind.u64.bits 127).toNat = u % 128 := by
    show (BitVec.ofInt 64 (u : Int) &&& BitVec.ofInt 64 127).toNat = u % 128
    rw [BitVec.toNat_and, BitVec.toNat_ofInt, BitVec.toNat_ofInt]
    have h1 : ((u : Int) % ((2 ^ 64 : Nat) : Int)).toNat = u := by
      have : ((2 ^ 64 : Nat) : Int) = 18446744073709551616 := rfl
      rw [this]; omega
    have h2 : ((127 : Int) % ((2 ^ 64 : Nat) : Int)).toNat = 2 ^ 7 - 1 := rfl
    rw [h1, h2, Nat.and_two_pow_sub_one_eq_mod]
  have e4 : IntKind.u8.wrap ((u % 128 : Nat) : Int) = ((u % 128 : Nat) : Int) := wu8 (by omega) (by omega)
  rw [e1, wu64 (by omega) (by omega), e4]
  have e2 := or128 ⟨u % 128, by omega⟩
  have e3 : (BitVec.ofInt IntKind.u8.bits ((u % 128 : Nat) : Int) ||| BitVec.ofInt IntKind.u8.bits 128).toNat = 128 + u % 128 := e2
  rw [e3, wu8 (by omega) (by omega)]

theorem specNumLoop (u : Nat) : ∀ (out : List Int), u ≤ 2000000000 → out.length + u ≤ 100000000000 → OkL (fun k j => spec_l26Num_h0_2 k j (u : Int) out) (fun b => b = out ++ enc u) := by
  induction u using Nat.strongRecOn with
  | _ u ih =>
    intro out hu ho
    refine OkL.step (fun k j => spec_l26Num_h0_2_eq k j (u : Int) out) (OkL.cond (fun h => ?_) fun h => ?_)
    · have h : (u : Int) > 127 := of_decide_eq_true h
      have e0 : (u : Int).tmod 128 = ((u % 128 : Nat) : Int) := by rw [Int.tmod_eq_emod_of_nonneg (by omega)]; omega
      have e1 : (u : Int).tdiv 128 = ((u / 128 : Nat) : Int) := by rw [Int.tdiv_eq_ediv_of_nonneg (by omega)]; omega
      have e2 : IntKind.i64.wrap (128 + ((u % 128 : Nat) : Int)) = ((128 + u % 128 : Nat) : Int) := by rw [w64 (by omega) (by omega)]; omega
      have e3 : IntKind.u8.wrap ((128 + u % 128 : Nat) : Int) = ((128 + u % 128 : Nat) : Int) := wu8 (by omega) (by omega)
      have e4 : IntKind.i64.wrap ((u / 128 : Nat) : Int) = ((u / 128 : Nat) : Int) := w64 (by omega) (by omega)
      simp only [e0, e1, e2, e3, e4]
      refine OkL.chk (by simp only [List.length_singleton]; omega) (OkL.imp (ih (u / 128) (by omega) _ (by omega) (by simp <;> omega)) fun b hb => ?_)
      rw [hb, enc_big (show ¬ u < 128 by omega), List.append_assoc]
      rfl
    · have h : ¬ (u : Int) > 127 := of_decide_eq_false h
      have e3 : IntKind.u8.wrap (u : Int) = (u : Int) := wu8 (by omega) (by omega)
      simp only [e3]
      refine OkL.chk (by simp only [List.length_singleton]; omega) (OkL.some ?_)
      rw [enc_small (by omega)]

theorem specNum1 {v : Int} (hv : NumI v) (out : List Int) (ho : out.length ≤ 10000000000) : Ok (fun k => spec_l26Num_h0 k v out) (fun b => b = out ++ enc (v + 1).toNat) := by
  obtain ⟨h0, h1⟩ := hv
  refine Ok.step (fun k => spec_l26Num_h0_eq k v out) ?_
  have e : IntKind.i64.wrap (v + 1) = (((v + 1).toNat : Nat) : Int) := by rw [w64 (by omega) (by omega)]; omega
  rw [e]
  exact (specNumLoop (v + 1).toNat out (by omega) (by omega)).ok

theorem implNumLoop (u : Nat) : ∀ (out : List Int), u ≤ 2000000000 → out.length + u ≤ 100000000000 → OkL (fun k j => impl_packer_num_h0_1 k j (u : Int) out) (fun b => b = ((), (out ++ enc u, ()), ())) := by
  induction u using Nat.strongRecOn with
  | _ u ih =>
    intro out hu ho
    refine OkL.step (fun k j => impl_packer_num_h0_1_eq k j (u : Int) out) (OkL.cond (fun h => ?_) fun h => ?_)
    · have h : (u : Int) ≥ 128 := of_decide_eq_true h
      have e0 : (u : Int).fdiv (2 ^ min (Int.toNat 7) IntKind.u64.bits) = ((u / 128 : Nat) : Int) := by
        show (u : Int).fdiv 128 = _
        rw [Int.fdiv_eq_ediv_of_nonneg _ (by omega)]; omega
      simp only [e0, bit_byte hu]
      refine OkL.chk (by simp only [List.length_singleton]; omega) (OkL.imp (ih (u / 128) (by omega) _ (by omega) (by simp <;> omega)) fun b hb => ?_)
      rw [hb, enc_big (show ¬ u < 128 by omega), List.append_assoc]
      rfl
    · have h : ¬ (u : Int) ≥ 128 := of_decide_eq_false h
      have e3 : IntKind.u8.wrap (u : Int) = (u : Int) := wu8 (by omega) (by omega)
      simp only [e3]
      refine OkL.chk (by simp only [List.length_singleton]; omega) (OkL.some ?_)
      rw [enc_small (by omega)]

theorem implNum1 {v : Int} (hv : NumI v) (out : List Int) (ho : out.length ≤ 10000000000) : Ok (fun k => impl_packer_num_h0 k v out) (fun b => b = ((), (out ++ enc (v + 1).toNat, ()), ())) := by
  obtain ⟨h0, h1⟩ := hv
  refine Ok.step (fun k => impl_packer_num_h0_eq k v out) ?_
  have e : IntKind.u64.wrap (IntKind.i64.wrap (v + 1)) = (((v + 1).toNat : Nat) : Int) := by rw [w64 (by omega) (by omega), wu64 (by omega) (by omega)]; omega
  rw [e]
  exact (implNumLoop (v + 1).toNat out (by omega) (by omega)).ok

/-- From the end down. -/
theorem down {R : Nat → Prop} (n : Nat) (h : R n) (hs : ∀ i, i < n → R (i + 1) → R i) : R 0 := by
  have key : ∀ d i, i + d = n → R i := by
    intro d
    induction d with
    | zero => intro i hi; obtain rfl : i = n := by omega
              exact h
    | succ d ih => intro i hi; exact hs i (by omega) (ih (i + 1) (by omega))
  exact key n 0 (by omega)

theorem implNums1 (l : List Int) (hN : ∀ v ∈ l, NumI v) (hl : l.length ≤ 1048576) (out : List Int) (ho : out.length ≤ 1000000000) : Ok (fun k => impl_packer_nums_h1 k l out) (fun b => b = ((), (out ++ encs l, ()), ())) := by
  refine Ok.step (fun k => impl_packer_nums_h1_eq k l out) ?_
  have key : OkL (fun k j => impl_packer_nums_h1_1 k j l (l.length : Int) ((0 : Nat) : Int) (out ++ encs (l.take 0))) (fun b => b = ((), (out ++ encs l, ()), ())) := by
    refine down (R := fun i => OkL (fun k j => impl_packer_nums_h1_1 k j l (l.length : Int) (i : Int) (out ++ encs (l.take i))) (fun b => b = ((), (out ++ encs l, ()), ()))) l.length ?_ fun i hi hr => ?_
    · refine OkL.step (fun k j => impl_packer_nums_h1_1_eq k j l (l.length : Int) (l.length : Int) _) (OkL.cond (fun h => absurd (of_decide_eq_true h) (by omega)) fun _ => OkL.some ?_)
      rw [List.take_length]
    · have c1 : (i : Int) < (l.length : Int) := by omega
      refine OkL.step (fun k j => impl_packer_nums_h1_1_eq k j l (l.length : Int) (i : Int) _) (OkL.cond (fun _ => OkL.chk (by omega) (OkL.chk c1 ?_)) fun h => absurd c1 (of_decide_eq_false h))
      have hlen := encs_len (take_mem hN i)
      rw [List.length_take] at hlen
      simp only [Int.toNat_natCast, w64n i (by omega)]
      refine OkL.bind (implNum1 (getN hN i hi _) _ (by rw [List.length_append]; omega)) fun x hx => ?_
      subst hx
      rw [encs_take l i hi 0, ← List.append_assoc] at hr
      exact hr
  have := key.ok
  simpa [encs] using this

theorem implNums0 (l : List Int) (hN : ∀ v ∈ l, NumI v) (hl : l.length ≤ 1048576) : Ok (fun k => impl_packer_nums_h0 k l) (fun b => b = ((), (encs l, ()), ())) := by
  refine Ok.step (fun k => impl_packer_nums_h0_eq k l) ?_
  have key : OkL (fun k j => impl_packer_nums_h0_1 k j l (l.length : Int) ((0 : Nat) : Int) (encs (l.take 0))) (fun b => b = ((), (encs l, ()), ())) := by
    refine down (R := fun i => OkL (fun k j => impl_packer_nums_h0_1 k j l (l.length : Int) (i : Int) (encs (l.take i))) (fun b => b = ((), (encs l, ()), ()))) l.length ?_ fun i hi hr => ?_
    · refine OkL.step (fun k j => impl_packer_nums_h0_1_eq k j l (l.length : Int) (l.length : Int) _) (OkL.cond (fun h => absurd (of_decide_eq_true h) (by omega)) fun _ => OkL.some ?_)
      rw [List.take_length]
    · have c1 : (i : Int) < (l.length : Int) := by omega
      refine OkL.step (fun k j => impl_packer_nums_h0_1_eq k j l (l.length : Int) (i : Int) _) (OkL.cond (fun _ => OkL.chk (by omega) (OkL.chk c1 ?_)) fun h => absurd c1 (of_decide_eq_false h))
      have hlen := encs_len (take_mem hN i)
      rw [List.length_take] at hlen
      simp only [Int.toNat_natCast, w64n i (by omega)]
      refine OkL.bind (implNum1 (getN hN i hi _) _ (by omega)) fun x hx => ?_
      subst hx
      rw [encs_take l i hi 0] at hr
      exact hr
  have := key.ok
  simpa [encs] using this

theorem specNums1 (l : List Int) (hN : ∀ v ∈ l, NumI v) (hl : l.length ≤ 1048576) (out : List Int) (ho : out.length ≤ 1000000000) : Ok (fun k => spec_l26Nums_h0 k l out) (fun b => b = out ++ enc (l.length + 1) ++ encs l) := by
  refine Ok.step (fun k => spec_l26Nums_h0_eq k l out) ?_
  have hn : NumI (l.length : Int) := ⟨by omega, by omega⟩
  refine Ok.bind (specNum1 hn out (by omega)) fun x hx => ?_
  have e0 : ((l.length : Int) + 1).toNat = l.length + 1 := by omega
  rw [e0] at hx
  have h5 := num_len hn
  rw [e0] at h5
  subst hx
  have key : OkL (fun k j => spec_l26Nums_h0_3 k j l ((0 : Nat) : Int) (out ++ enc (l.length + 1) ++ encs (l.take 0))) (fun b => b = out ++ enc (l.length + 1) ++ encs l) := by
    refine down (R := fun i => OkL (fun k j => spec_l26Nums_h0_3 k j l (i : Int) (out ++ enc (l.length + 1) ++ encs (l.take i))) (fun b => b = out ++ enc (l.length + 1) ++ encs l)) l.length ?_ fun i hi hr => ?_
    · refine OkL.step (fun k j => spec_l26Nums_h0_3_eq k j l (l.length : Int) _) (OkL.cond (fun h => absurd (of_decide_eq_true h) (by omega)) fun _ => OkL.some ?_)
      rw [List.take_length]
    · have c1 : (i : Int) < (l.length : Int) := by omega
      refine OkL.step (fun k j => spec_l26Nums_h0_3_eq k j l (i : Int) _) (OkL.cond (fun _ => OkL.chk (by omega) (OkL.chk c1 ?_)) fun h => absurd c1 (of_decide_eq_false h))
      have hlen := encs_len (take_mem hN i)
      rw [List.length_take] at hlen
      simp only [Int.toNat_natCast, w64n i (by omega)]
      refine OkL.bind (specNum1 (getN hN i hi _) _ (by simp only [List.length_append]; omega)) fun x hx => ?_
      subst hx
      rw [encs_take l i hi 0, ← List.append_assoc (out ++ enc (l.length + 1))] at hr
      exact hr
  have := key.ok
  simpa [encs] using this

/-! ### events, and what is let out -/
def evs (l : List Ev7) : List Int := l.flatMap fun e => encs (evL e)
def ous (l : List Ou5) : List Int := l.flatMap fun e => encs (ouL e)

theorem rows_take {α : Type} (f : α → List Int) (l : List α) (i : Nat) (h : i < l.length) (d : α) : (l.take (i + 1)).flatMap f = (l.take i).flatMap f ++ f (l.getD i d) := by
  rw [List.take_succ_eq_append_getElem h, List.flatMap_append]
  have : l.getD i d = l[i] := by rw [List.getD_eq_getElem?_getD, List.getElem?_eq_getElem h]; rfl
  rw [this]
  simp

theorem rows_len {α : Type} (f : α → List Int) (m : Nat) (l : List α) (h : ∀ x ∈ l, (f x).length ≤ m) : (l.flatMap f).length ≤ m * l.length := by
  induction l with
  | nil => simp
  | cons x l ih =>
    have h1 := h x List.mem_cons_self
    have h2 := ih fun v hv => h v (List.mem_cons_of_mem _ hv)
    rw [List.flatMap_cons, List.length_append, List.length_cons, Nat.mul_succ]
    omega

theorem getP {α : Type} {l : List α} {P : α → Prop} (h : ∀ v ∈ l, P v) (i : Nat) (hi : i < l.length) (d : α) : P (l.getD i d) := by
  rw [List.getD_eq_getElem?_getD, List.getElem?_eq_getElem hi]
  exact h _ (List.getElem_mem hi)

def NumE (e : Ev7) : Prop := ∀ v ∈ evL e, NumI v
def NumO (e : Ou5) : Prop := ∀ v ∈ ouL e, NumI v

theorem evs_len {l : List Ev7} (h : ∀ e ∈ l, NumE e) (i : Nat) : ((l.take i).flatMap fun e => encs (evL e)).length ≤ 35 * i := by
  have := rows_len (fun e => encs (evL e)) 35 (l.take i) fun x hx => by
    have := encs_len (h x (List.mem_of_mem_take hx))
    simpa [evL] using this
  rw [List.length_take] at this
  omega

theorem ous_len {l : List Ou5} (h : ∀ e ∈ l, NumO e) (i : Nat) : ((l.take i).flatMap fun e => encs (ouL e)).length ≤ 25 * i := by
  have := rows_len (fun e => encs (ouL e)) 25 (l.take i) fun x hx => by
    have := encs_len (h x (List.mem_of_mem_take hx))
    simpa [ouL] using this
  rw [List.length_take] at this
  omega

theorem implEvents1 (l : List Ev7) (hN : ∀ e ∈ l, NumE e) (hl : l.length ≤ 1048576) (out : List Int) (ho : out.length ≤ 100000000) : Ok (fun k => impl_packer_events_h0 k l out) (fun b => b = ((), (out ++ enc (l.length + 1) ++ evs l, ()), ())) := by
  refine Ok.step (fun k => impl_packer_events_h0_eq k l out) ?_
  have hn : NumI (l.length : Int) := ⟨by omega, by omega⟩
  refine Ok.bind (implNum1 hn out (by omega)) fun x hx => ?_
  have e0 : ((l.length : Int) + 1).toNat = l.length + 1 := by omega
  rw [e0] at hx
  have h5 := num_len hn
  rw [e0] at h5
  subst hx
  have key : OkL (fun k j => impl_packer_events_h0_2 k j l (l.length : Int) ((0 : Nat) : Int) (out ++ enc (l.length + 1) ++ (l.take 0).flatMap fun e => encs (evL e))) (fun b => b = ((), (out ++ enc (l.length + 1) ++ evs l, ()), ())) := by
    refine down (R := fun i => OkL (fun k j => impl_packer_events_h0_2 k j l (l.length : Int) (i : Int) (out ++ enc (l.length + 1) ++ (l.take i).flatMap fun e => encs (evL e))) (fun b => b = ((), (out ++ enc (l.length + 1) ++ evs l, ()), ()))) l.length ?_ fun i hi hr => ?_
    · refine OkL.step (fun k j => impl_packer_events_h0_2_eq k j l (l.length : Int) (l.length : Int) _) (OkL.cond (fun h => absurd (of_decide_eq_true h) (by omega)) fun _ => OkL.some ?_)
      rw [List.take_length]; rfl
    · have c1 : (i : Int) < (l.length : Int) := by omega
      refine OkL.step (fun k j => impl_packer_events_h0_2_eq k j l (l.length : Int) (i : Int) _) (OkL.cond (fun _ => OkL.chk (by omega) (OkL.chk c1 ?_)) fun h => absurd c1 (of_decide_eq_false h))
      have hlen := evs_len hN i
      simp only [Int.toNat_natCast, w64n i (by omega)]
      refine OkL.bind (P := fun b => b = l.getD i (dflt t_impl_Event)) ⟨_, Ev.of 1 fun m => impl_keyOf_eq m _, rfl⟩ fun x hx => ?_
      subst hx
      refine OkL.bind (implNums1 (evL (l.getD i (dflt t_impl_Event))) (getP hN i hi _) (by simp [evL]) _ (by simp only [List.length_append]; omega)) fun x hx => ?_
      subst hx
      rw [rows_take (fun e => encs (evL e)) l i hi (0, 0, 0, 0, 0, 0, 0), ← List.append_assoc (out ++ enc (l.length + 1))] at hr
      exact hr
  have := key.ok
  simpa using this

theorem implOuts1 (l : List Ou5) (hN : ∀ e ∈ l, NumO e) (hl : l.length ≤ 1048576) (out : List Int) (ho : out.length ≤ 100000000) : Ok (fun k => impl_packer_outs_h0 k l out) (fun b => b = ((), (out ++ enc (l.length + 1) ++ ous l, ()), ())) := by
  refine Ok.step (fun k => impl_packer_outs_h0_eq k l out) ?_
  have hn : NumI (l.length : Int) := ⟨by omega, by omega⟩
  refine Ok.bind (implNum1 hn out (by omega)) fun x hx => ?_
  have e0 : ((l.length : Int) + 1).toNat = l.length + 1 := by omega
  rw [e0] at hx
  have h5 := num_len hn
  rw [e0] at h5
  subst hx
  have key : OkL (fun k j => impl_packer_outs_h0_2 k j l (l.length : Int) ((0 : Nat) : Int) (out ++ enc (l.length + 1) ++ (l.take 0).flatMap fun e => encs (ouL e))) (fun b => b = ((), (out ++ enc (l.length + 1) ++ ous l, ()), ())) := by
    refine down (R := fun i => OkL (fun k j => impl_packer_outs_h0_2 k j l (l.length : Int) (i : Int) (out ++ enc (l.length + 1) ++ (l.take i).flatMap fun e => encs (ouL e))) (fun b => b = ((), (out ++ enc (l.length + 1) ++ ous l, ()), ()))) l.length ?_ fun i hi hr => ?_
    · refine OkL.step (fun k j => impl_packer_outs_h0_2_eq k j l (l.length : Int) (l.length : Int) _) (OkL.cond (fun h => absurd (of_decide_eq_true h) (by omega)) fun _ => OkL.some ?_)
      rw [List.take_length]; rfl
    · have c1 : (i : Int) < (l.length : Int) := by omega
      refine OkL.step (fun k j => impl_packer_outs_h0_2_eq k j l (l.length : Int) (i : Int) _) (OkL.cond (fun _ => OkL.chk (by omega) (OkL.chk c1 ?_)) fun h => absurd c1 (of_decide_eq_false h))
      have hlen := ous_len hN i
      simp only [Int.toNat_natCast, w64n i (by omega)]
      refine OkL.bind (implNums1 (ouL (l.getD i (dflt t_impl_Out))) (getP hN i hi _) (by simp [ouL]) _ (by simp only [List.length_append]; omega)) fun x hx => ?_
      subst hx
      rw [rows_take (fun e => encs (ouL e)) l i hi (0, 0, 0, 0, 0), ← List.append_assoc (out ++ enc (l.length + 1))] at hr
      exact hr
  have := key.ok
  simpa using this

/-! ### words -/
def headL (x : Wo) : List Int := [x.1, x.2.1, x.2.2.1, x.2.2.2.1, x.2.2.2.2.1, x.2.2.2.2.2.1, x.2.2.2.2.2.2.1]
structure NumW (x : Wo) : Prop where
  hd : ∀ v ∈ headL x, NumI v
  i1 : ∀ v ∈ x.2.2.2.2.2.2.2.1, NumI v
  i2 : ∀ v ∈ x.2.2.2.2.2.2.2.2.1, NumI v
  ev : ∀ e ∈ x.2.2.2.2.2.2.2.2.2.1, NumE e
  ou : ∀ e ∈ x.2.2.2.2.2.2.2.2.2.2, NumO e

def numsP (l : List Int) : List Int := enc (l.length + 1) ++ encs l
def packM (x : Wo) : List Int := encs (headL x) ++ numsP x.2.2.2.2.2.2.2.1 ++ numsP x.2.2.2.2.2.2.2.2.1 ++ (enc (x.2.2.2.2.2.2.2.2.2.1.length + 1) ++ evs x.2.2.2.2.2.2.2.2.2.1) ++ (enc (x.2.2.2.2.2.2.2.2.2.2.length + 1) ++ ous x.2.2.2.2.2.2.2.2.2.2)

theorem cnt_len {n : Nat} (h : n ≤ 1048576) : (enc (n + 1)).length ≤ 5 := enc_len 4 _ (by omega)

theorem numsP_len {l : List Int} (h : ∀ v ∈ l, NumI v) (hl : l.length ≤ 1048576) : (numsP l).length ≤ 5 + 5 * l.length := by
  have h1 := encs_len h
  have h2 := cnt_len hl
  unfold numsP
  rw [List.length_append]; omega

theorem implPack (x : Wo) (hs : SmallWo x) (hN : wordM x = true → NumW x) : Ok (fun k => impl_WordPack k x) (fun b => b = cond (wordM x) (packM x) []) := by
  refine Ok.step (fun k => impl_WordPack_eq k x) ?_
  refine Ok.bind (P := fun b => b = wordM x) ⟨_, implWord x hs, rfl⟩ fun b hb => ?_
  subst hb
  refine Ok.cond (fun h => Ok.some ?_) fun h => ?_
  · rw [nt h]; rfl
  have h := nf h
  obtain ⟨n1, n2, n3, n4, n5⟩ := hN h
  obtain ⟨s1, s2, s3, s4⟩ := hs
  have q1 := encs_len n1
  have q2 := numsP_len n2 s1
  have q3 := numsP_len n3 s2
  have q0 : (headL x).length = 7 := rfl
  have hn : ∀ n : Nat, n ≤ 1048576 → NumI (n : Int) := fun n hn => ⟨by omega, by omega⟩
  have e0 : ∀ n : Nat, ((n : Int) + 1).toNat = n + 1 := fun n => by omega
  have f1 := cnt_len s1
  have f2 := cnt_len s2
  have f3 := cnt_len s3
  have g2 := encs_len n2
  have g3 := encs_len n3
  have g4 := evs_len n4 x.2.2.2.2.2.2.2.2.2.1.length
  rw [List.take_length] at g4
  refine Ok.bind (implNums0 (headL x) n1 (by omega)) fun y hy => ?_
  subst hy
  refine Ok.bind (implNum1 (hn _ s1) _ (by show (encs (headL x)).length ≤ _; omega)) fun y hy => ?_
  subst hy
  refine Ok.bind (implNums1 _ n2 s1 _ (by show (encs (headL x) ++ _).length ≤ _; rw [List.length_append, e0]; omega)) fun y hy => ?_
  subst hy
  refine Ok.bind (implNum1 (hn _ s2) _ (by show (encs (headL x) ++ _ ++ _).length ≤ _; rw [List.length_append, List.length_append, e0]; omega)) fun y hy => ?_
  subst hy
  refine Ok.bind (implNums1 _ n3 s2 _ (by show (encs (headL x) ++ _ ++ _ ++ _).length ≤ _; rw [List.length_append, List.length_append, List.length_append, e0, e0]; omega)) fun y hy => ?_
  subst hy
  refine Ok.bind (implEvents1 _ n4 s3 _ (by show (encs (headL x) ++ _ ++ _ ++ _ ++ _).length ≤ _; rw [List.length_append, List.length_append, List.length_append, List.length_append, e0, e0]; omega)) fun y hy => ?_
  subst hy
  refine Ok.bind (implOuts1 _ n5 s4 _ (by show (encs (headL x) ++ _ ++ _ ++ _ ++ _ ++ _ ++ _).length ≤ _; simp only [List.length_append, e0]; unfold evs; omega)) fun y hy => ?_
  subst hy
  refine Ok.some ?_
  rw [h]
  show encs (headL x) ++ enc _ ++ encs _ ++ enc _ ++ encs _ ++ enc _ ++ evs _ ++ enc _ ++ ous _ = packM x
  simp only [packM, numsP, e0, List.append_assoc]

theorem spec25 (x : Wo) (o : List Int) (ho : ∀ v ∈ o, NumI v) (hol : o.length ≤ 100) (i : Nat) (hi : i < 2000000) (B : List Int) (hB : B.length ≤ 1000000000) {Q : List Int → Prop}
    (hnext : OkL (fun k j => spec_WordPack_21 k j ((i + 1 : Nat) : Int) x (B ++ encs o)) Q) : Ok3 (fun k j0 j => spec_WordPack_25 k j0 j (i : Int) 0 x B o) Q := by
  have key : Ok3 (fun k j0 j => spec_WordPack_25 k j0 j (i : Int) ((0 : Nat) : Int) x (B ++ encs (o.take 0)) o) Q := by
    refine down (R := fun t => Ok3 (fun k j0 j => spec_WordPack_25 k j0 j (i : Int) (t : Int) x (B ++ encs (o.take t)) o) Q) o.length ?_ fun t ht hr => ?_
    · refine Ok3.step (fun k j0 j => spec_WordPack_25_eq k j0 j (i : Int) (o.length : Int) x _ o) (Ok3.cond (fun h => absurd (of_decide_eq_true h) (by omega)) fun _ => ?_)
      rw [List.take_length, w64n i (by omega)]
      exact Ok3.out hnext
    · have c1 : (t : Int) < (o.length : Int) := by omega
      refine Ok3.step (fun k j0 j => spec_WordPack_25_eq k j0 j (i : Int) (t : Int) x _ o) (Ok3.cond (fun _ => Ok3.chk (by omega) (Ok3.chk c1 (Ok3.chk (by rw [Int.toNat_natCast]; exact ht) ?_))) fun h => absurd c1 (of_decide_eq_false h))
      have hlen := encs_len (take_mem ho t)
      rw [List.length_take] at hlen
      simp only [Int.toNat_natCast, w64n t (by omega)]
      refine Ok3.bind (specNum1 (getN ho t ht _) _ (by rw [List.length_append]; omega)) fun y hy => ?_
      subst hy
      rw [encs_take o t ht 0, ← List.append_assoc] at hr
      exact hr
  simpa [encs] using key

theorem spec16 (x : Wo) (o : List Int) (ho : ∀ v ∈ o, NumI v) (hol : o.length ≤ 100) (i : Nat) (hi : i < 2000000) (B : List Int) (hB : B.length ≤ 1000000000) {Q : List Int → Prop}
    (hnext : OkL (fun k j => spec_WordPack_12 k j ((i + 1 : Nat) : Int) x (B ++ encs o)) Q) : Ok3 (fun k j0 j => spec_WordPack_16 k j0 j (i : Int) 0 x B o) Q := by
  have key : Ok3 (fun k j0 j => spec_WordPack_16 k j0 j (i : Int) ((0 : Nat) : Int) x (B ++ encs (o.take 0)) o) Q := by
    refine down (R := fun t => Ok3 (fun k j0 j => spec_WordPack_16 k j0 j (i : Int) (t : Int) x (B ++ encs (o.take t)) o) Q) o.length ?_ fun t ht hr => ?_
    · refine Ok3.step (fun k j0 j => spec_WordPack_16_eq k j0 j (i : Int) (o.length : Int) x _ o) (Ok3.cond (fun h => absurd (of_decide_eq_true h) (by omega)) fun _ => ?_)
      rw [List.take_length, w64n i (by omega)]
      exact Ok3.out hnext
    · have c1 : (t : Int) < (o.length : Int) := by omega
      refine Ok3.step (fun k j0 j => spec_WordPack_16_eq k j0 j (i : Int) (t : Int) x _ o) (Ok3.cond (fun _ => Ok3.chk (by omega) (Ok3.chk c1 (Ok3.chk (by rw [Int.toNat_natCast]; exact ht) ?_))) fun h => absurd c1 (of_decide_eq_false h))
      have hlen := encs_len (take_mem ho t)
      rw [List.length_take] at hlen
      simp only [Int.toNat_natCast, w64n t (by omega)]
      refine Ok3.bind (specNum1 (getN ho t ht _) _ (by rw [List.length_append]; omega)) fun y hy => ?_
      subst hy
      rw [encs_take o t ht 0, ← List.append_assoc] at hr
      exact hr
  simpa [encs] using key

theorem spec21 (x : Wo) (hN : ∀ e ∈ x.2.2.2.2.2.2.2.2.2.2, NumO e) (hl : x.2.2.2.2.2.2.2.2.2.2.length ≤ 1048576) (A : List Int) (hA : A.length ≤ 100000000) : OkL (fun k j => spec_WordPack_21 k j 0 x A) (fun b => b = A ++ ous x.2.2.2.2.2.2.2.2.2.2) := by
  generalize hl' : x.2.2.2.2.2.2.2.2.2.2 = l at hN hl
  have key : OkL (fun k j => spec_WordPack_21 k j ((0 : Nat) : Int) x (A ++ (l.take 0).flatMap fun e => encs (ouL e))) (fun b => b = A ++ ous l) := by
    refine down (R := fun i => OkL (fun k j => spec_WordPack_21 k j (i : Int) x (A ++ (l.take i).flatMap fun e => encs (ouL e))) (fun b => b = A ++ ous l)) l.length ?_ fun i hi hr => ?_
    · refine OkL.step (fun k j => spec_WordPack_21_eq k j (l.length : Int) x _) ?_
      rw [hl']
      refine OkL.cond (fun h => absurd (of_decide_eq_true h) (by omega)) fun _ => OkL.some ?_
      rw [List.take_length]; rfl
    · have c1 : (i : Int) < (l.length : Int) := by omega
      refine OkL.step (fun k j => spec_WordPack_21_eq k j (i : Int) x _) ?_
      rw [hl']
      refine OkL.cond (fun _ => OkL.chk (by omega) (OkL.chk c1 ?_)) fun h => absurd c1 (of_decide_eq_false h)
      have hlen := ous_len hN i
      simp only [Int.toNat_natCast]
      refine OkL.bind (P := fun b => b = ouL (l.getD i (dflt t_impl_Out))) ⟨_, Ev.of 1 fun m => spec_l26Out_eq m _, rfl⟩ fun o ho => ?_
      subst ho
      rw [rows_take (fun e => encs (ouL e)) l i hi (0, 0, 0, 0, 0), ← List.append_assoc] at hr
      exact Ok3.inn (L := fun k j0 j => spec_WordPack_25 k j0 j (i : Int) 0 x _ _) (spec25 x _ (getP hN i hi _) (by simp [ouL]) i (by omega) _ (by rw [List.length_append]; omega) hr)
  simpa using key

theorem spec12 (x : Wo) (hE : ∀ e ∈ x.2.2.2.2.2.2.2.2.2.1, NumE e) (hN : ∀ e ∈ x.2.2.2.2.2.2.2.2.2.2, NumO e) (hl0 : x.2.2.2.2.2.2.2.2.2.1.length ≤ 1048576) (hl : x.2.2.2.2.2.2.2.2.2.2.length ≤ 1048576) (A : List Int) (hA : A.length ≤ 20000000) :
    OkL (fun k j => spec_WordPack_12 k j 0 x A) (fun b => b = A ++ evs x.2.2.2.2.2.2.2.2.2.1 ++ (enc (x.2.2.2.2.2.2.2.2.2.2.length + 1) ++ ous x.2.2.2.2.2.2.2.2.2.2)) := by
  generalize hl' : x.2.2.2.2.2.2.2.2.2.1 = l at hE hl0
  have key : OkL (fun k j => spec_WordPack_12 k j ((0 : Nat) : Int) x (A ++ (l.take 0).flatMap fun e => encs (evL e))) (fun b => b = A ++ evs l ++ (enc (x.2.2.2.2.2.2.2.2.2.2.length + 1) ++ ous x.2.2.2.2.2.2.2.2.2.2)) := by
    refine down (R := fun i => OkL (fun k j => spec_WordPack_12 k j (i : Int) x (A ++ (l.take i).flatMap fun e => encs (evL e))) (fun b => b = A ++ evs l ++ (enc (x.2.2.2.2.2.2.2.2.2.2.length + 1) ++ ous x.2.2.2.2.2.2.2.2.2.2))) l.length ?_ fun i hi hr => ?_
    · refine OkL.step (fun k j => spec_WordPack_12_eq k j (l.length : Int) x _) ?_
      rw [hl']
      refine OkL.cond (fun h => absurd (of_decide_eq_true h) (by omega)) fun _ => ?_
      have hlen := evs_len hE l.length
      have hn : NumI (x.2.2.2.2.2.2.2.2.2.2.length : Int) := ⟨by omega, by omega⟩
      have e0 : ((x.2.2.2.2.2.2.2.2.2.2.length : Int) + 1).toNat = x.2.2.2.2.2.2.2.2.2.2.length + 1 := by omega
      have h5 := cnt_len hl
      rw [List.take_length] at hlen ⊢
      refine OkL.bind (specNum1 hn _ (by rw [List.length_append]; omega)) fun y hy => OkL.of ?_
      rw [e0] at hy
      subst hy
      refine Ok.imp (spec21 x hN hl _ (by rw [List.length_append, List.length_append]; omega)).ok fun b hb => ?_
      rw [hb]
      simp only [evs, List.append_assoc]
    · have c1 : (i : Int) < (l.length : Int) := by omega
      refine OkL.step (fun k j => spec_WordPack_12_eq k j (i : Int) x _) ?_
      rw [hl']
      refine OkL.cond (fun _ => OkL.chk (by omega) (OkL.chk c1 ?_)) fun h => absurd c1 (of_decide_eq_false h)
      have hlen := evs_len hE i
      simp only [Int.toNat_natCast]
      refine OkL.bind (P := fun b => b = evL (l.getD i (dflt t_impl_Event))) ⟨_, Ev.of 1 fun m => spec_l26Event_eq m _, rfl⟩ fun o ho => ?_
      subst ho
      rw [rows_take (fun e => encs (evL e)) l i hi (0, 0, 0, 0, 0, 0, 0), ← List.append_assoc] at hr
      exact Ok3.inn (L := fun k j0 j => spec_WordPack_16 k j0 j (i : Int) 0 x _ _) (spec16 x _ (getP hE i hi _) (by simp [evL]) i (by omega) _ (by rw [List.length_append]; omega) hr)
  simpa using key

theorem specPack (x : Wo) (hs : SmallWo x) (hN : wordM x = true → NumW x) : Ok (fun k => spec_WordPack k x) (fun b => b = cond (wordM x) (packM x) []) := by
  refine Ok.step (fun k => spec_WordPack_eq k x) ?_
  refine Ok.bind (P := fun b => b = wordM x) ⟨_, specWord x hs, rfl⟩ fun b hb => ?_
  subst hb
  refine Ok.cond (fun h => Ok.some ?_) fun h => ?_
  · rw [nt h]; rfl
  have h := nf h
  obtain ⟨n1, n2, n3, n4, n5⟩ := hN h
  obtain ⟨s1, s2, s3, s4⟩ := hs
  have q2 := numsP_len n2 s1
  have q3 := numsP_len n3 s2
  have q0 : (headL x).length = 7 := rfl
  have f3 := cnt_len s3
  have key : OkL (fun k j => spec_WordPack_6 k j ((0 : Nat) : Int) x (encs ((headL x).take 0)) (headL x)) (fun b => b = packM x) := by
    refine down (R := fun i => OkL (fun k j => spec_WordPack_6 k j (i : Int) x (encs ((headL x).take i)) (headL x)) (fun b => b = packM x)) (headL x).length ?_ fun i hi hr => ?_
    · refine OkL.step (fun k j => spec_WordPack_6_eq k j ((headL x).length : Int) x _ (headL x)) (OkL.cond (fun h => absurd (of_decide_eq_true h) (by omega)) fun _ => OkL.of ?_)
      have q1 := encs_len n1
      rw [List.take_length]
      refine Ok.bind (specNums1 _ n2 s1 _ (by omega)) fun y hy => ?_
      have hy : y = encs (headL x) ++ numsP x.2.2.2.2.2.2.2.1 := by rw [hy, List.append_assoc]; rfl
      subst hy
      refine Ok.bind (specNums1 _ n3 s2 _ (by rw [List.length_append]; omega)) fun y hy => ?_
      have hy : y = encs (headL x) ++ numsP x.2.2.2.2.2.2.2.1 ++ numsP x.2.2.2.2.2.2.2.2.1 := by rw [hy, List.append_assoc]; rfl
      subst hy
      have hn : NumI (x.2.2.2.2.2.2.2.2.2.1.length : Int) := ⟨by omega, by omega⟩
      have e0 : ((x.2.2.2.2.2.2.2.2.2.1.length : Int) + 1).toNat = x.2.2.2.2.2.2.2.2.2.1.length + 1 := by omega
      refine Ok.bind (specNum1 hn _ (by rw [List.length_append, List.length_append]; omega)) fun y hy => ?_
      rw [e0] at hy
      subst hy
      refine Ok.imp (spec12 x n4 n5 s3 s4 _ (by rw [List.length_append, List.length_append, List.length_append]; omega)).ok fun b hb => ?_
      rw [hb]
      simp only [packM, List.append_assoc]
    · have c1 : (i : Int) < ((headL x).length : Int) := by omega
      refine OkL.step (fun k j => spec_WordPack_6_eq k j (i : Int) x _ (headL x)) (OkL.cond (fun _ => OkL.chk (by omega) (OkL.chk c1 (OkL.chk (by rw [Int.toNat_natCast]; exact hi) ?_))) fun h => absurd c1 (of_decide_eq_false h))
      have hlen := encs_len (take_mem n1 i)
      rw [List.length_take] at hlen
      simp only [Int.toNat_natCast, w64n i (by omega)]
      refine OkL.bind (specNum1 (getN n1 i hi _) _ (by omega)) fun y hy => ?_
      subst hy
      rw [encs_take (headL x) i hi 0] at hr
      exact hr
  rw [h]
  exact key.ok

/-! ### a word that is ok holds small numbers -/
theorem inB_num {x a b : Int} (h : inB x a b = true) (ha : -1 ≤ a) (hb : b ≤ 1000000000) : NumI x := by
  simp only [inB, Bool.and_eq_true, decide_eq_true_eq] at h
  exact ⟨by omega, by omega⟩

theorem listM_all {α : Type} {ok : α → Bool} {less : α → α → Bool} : ∀ {l : List α}, listM ok less l = true → ∀ x ∈ l, ok x = true := by
  have go : ∀ (r : List α) (x : α), listM.goM ok less x r = true → ∀ y ∈ r, ok y = true := by
    intro r
    induction r with
    | nil => intro x h y hy; cases hy
    | cons z r ih =>
      intro x h y hy
      simp only [listM.goM, Bool.and_eq_true] at h
      rcases List.mem_cons.1 hy with rfl | hy
      · exact h.1.1
      · exact ih z h.2 y hy
  intro l h x hx
  cases l with
  | nil => cases hx
  | cons z r =>
    simp only [listM, Bool.and_eq_true] at h
    rcases List.mem_cons.1 hx with rfl | hx
    · exact h.1
    · exact go r z h.2 x hx

theorem evM_num {e : Ev7} (h : evM e = true) : NumE e := by
  simp only [evM, Bool.and_eq_true] at h
  obtain ⟨h1, h2, h3, h4, h5, h6, h7⟩ := h
  intro v hv
  simp only [evL, List.mem_cons, List.not_mem_nil, or_false] at hv
  rcases hv with rfl | rfl | rfl | rfl | rfl | rfl | rfl
  · exact inB_num h1 (by omega) (by omega)
  · exact inB_num h2 (by omega) (by omega)
  · exact inB_num h3 (by omega) (by omega)
  · exact inB_num h4 (by omega) (by omega)
  · exact inB_num h5 (by omega) (by omega)
  · exact inB_num h6 (by omega) (by omega)
  · exact inB_num h7 (by omega) (by omega)

theorem ouM_num {e : Ou5} (h : ouM e = true) : NumO e := by
  simp only [ouM, Bool.and_eq_true] at h
  obtain ⟨h1, h2, h3, h4, h5⟩ := h
  intro v hv
  simp only [ouL, List.mem_cons, List.not_mem_nil, or_false] at hv
  rcases hv with rfl | rfl | rfl | rfl | rfl
  · exact inB_num h1 (by omega) (by omega)
  · exact inB_num h2 (by omega) (by omega)
  · exact inB_num h3 (by omega) (by omega)
  · exact inB_num h4 (by omega) (by omega)
  · exact inB_num h5 (by omega) (by omega)

theorem counts_num {l : List Int} (h : countsM l = true) : ∀ v ∈ l, NumI v := by
  simp only [countsM, Bool.and_eq_true, List.all_eq_true] at h
  exact fun v hv => inB_num (h.2 v hv) (by omega) (by omega)

theorem word_num {x : Wo} (h : wordM x = true) : NumW x := by
  simp only [wordM, Bool.and_eq_true] at h
  obtain ⟨h1, h2, h3, h4, h5, h6, h7, h8, h9, h10, h11⟩ := h
  simp only [eventsM, outsM, Bool.and_eq_true] at h10 h11
  refine ⟨fun v hv => ?_, counts_num h8, counts_num h9, fun e he => evM_num (listM_all h10.2 e he), fun e he => ouM_num (listM_all h11.2 e he)⟩
  simp only [headL, List.mem_cons, List.not_mem_nil, or_false] at hv
  rcases hv with rfl | rfl | rfl | rfl | rfl | rfl | rfl
  · exact inB_num h1 (by omega) (by omega)
  · exact inB_num h2 (by omega) (by omega)
  · exact inB_num h3 (by omega) (by omega)
  · exact inB_num h4 (by omega) (by omega)
  · exact inB_num h5 (by omega) (by omega)
  · exact inB_num h6 (by omega) (by omega)
  · exact inB_num h7 (by omega) (by omega)

theorem pack_len (x : Wo) (hs : SmallWo x) (hN : NumW x) : (packM x).length ≤ 200000000 := by
  obtain ⟨n1, n2, n3, n4, n5⟩ := hN
  obtain ⟨s1, s2, s3, s4⟩ := hs
  have q1 := encs_len n1
  have q0 : (headL x).length = 7 := rfl
  have q2 := numsP_len n2 s1
  have q3 := numsP_len n3 s2
  have f3 := cnt_len s3
  have f4 := cnt_len s4
  have g4 := evs_len n4 x.2.2.2.2.2.2.2.2.2.1.length
  have g5 := ous_len n5 x.2.2.2.2.2.2.2.2.2.2.length
  rw [List.take_length] at g4 g5
  unfold packM evs ous
  simp only [List.length_append]
  omega
end Go.Proofs.Ytjgpacfhokpfdaa.SFnWordBack
