/- Words out of their bytes: what is read of the bytes of a word is the word. -/
import Derived.Test.YtjgpacfhokpfdaaPackPlFnWordBack
set_option linter.unusedVariables false
set_option linter.unusedSimpArgs false
namespace Go.Proofs.Ytjgpacfhokpfdaa.SFnWordBack
open Go Go.Sx Go.Pl
theorem and127 : ∀ w : Fin 256, (BitVec.ofInt 8 (w.val : Int) &&& BitVec.ofInt 8 127).toNat = w.val % 128 := by decide +kernel
theorem or_add (a c s : Nat) (h : a < 2 ^ s) : a ||| c * 2 ^ s = a + c * 2 ^ s := by
  have := Nat.two_pow_add_eq_or_of_lt h c
  rw [Nat.or_comm, Nat.mul_comm c, ← this, Nat.add_comm]
theorem bv64 {a : Nat} (h : a < 18446744073709551616) : (BitVec.ofInt 64 (a : Int)).toNat = a := by
  rw [BitVec.toNat_ofInt]
  have : ((2 ^ 64 : Nat) : Int) = 18446744073709551616 := rfl
  rw [this]; omega
def orV (a b s : Int) : Int := IntKind.u64.wrap (((BitVec.ofInt IntKind.u64.bits a ||| BitVec.ofInt IntKind.u64.bits (IntKind.u64.wrap (IntKind.u64.wrap (IntKind.u8.wrap (((BitVec.ofInt IntKind.u8.bits b &&& BitVec.ofInt IntKind.u8.bits 127).toNat : Nat) : Int)) * 2 ^ min s.toNat IntKind.u64.bits))).toNat : Nat) : Int)
theorem pow_le (s : Nat) (hs : s ≤ 4) : 2 ^ (7 * s) ≤ 268435456 ∧ 0 < 2 ^ (7 * s) :=
  ⟨Nat.pow_le_pow_right (by omega) (show 7 * s ≤ 28 by omega), Nat.pow_pos (by omega)⟩
theorem orV_eq {a b s : Nat} (hs : s ≤ 4) (ha : a < 2 ^ (7 * s)) (hb : b < 256) : orV a b ((7 * s : Nat) : Int) = ((a + b % 128 * 2 ^ (7 * s) : Nat) : Int) := by
  unfold orV
  obtain ⟨h1, h2⟩ := pow_le s hs
  have e1 : (BitVec.ofInt IntKind.u8.bits (b : Int) &&& BitVec.ofInt IntKind.u8.bits 127).toNat = b % 128 := and127 ⟨b, hb⟩
  have e2 : (2 : Int) ^ min ((7 * s : Nat) : Int).toNat IntKind.u64.bits = ((2 ^ (7 * s) : Nat) : Int) := by
    rw [Int.toNat_natCast, show IntKind.u64.bits = 64 from rfl, Nat.min_eq_left (show 7 * s ≤ 64 by omega)]
    push_cast
    rfl
  have e3 : IntKind.u8.wrap ((b % 128 : Nat) : Int) = ((b % 128 : Nat) : Int) := wu8 (by omega) (by omega)
  have e4 : IntKind.u64.wrap ((b % 128 : Nat) : Int) = ((b % 128 : Nat) : Int) := wu64 (by omega) (by omega)
  have hm : b % 128 * 2 ^ (7 * s) ≤ 127 * 268435456 := Nat.mul_le_mul (by omega) h1
  have e5 : IntKind.u64.wrap ((b % 128 * 2 ^ (7 * s) : Nat) : Int) = ((b % 128 * 2 ^ (7 * s) : Nat) : Int) := wu64 (by omega) (by omega)
  rw [e1, e2, e3, e4, ← Int.natCast_mul, e5]
  show IntKind.u64.wrap (((BitVec.ofInt 64 (a : Int) ||| BitVec.ofInt 64 ((b % 128 * 2 ^ (7 * s) : Nat) : Int)).toNat : Nat) : Int) = _
  rw [BitVec.toNat_or, bv64 (by omega), bv64 (by omega), or_add _ _ _ ha, wu64 (by omega) (by omega)]
abbrev Un (α : Type) := α × (List Int × Int × Unit × Unit) × Unit
theorem enc_pos (u : Nat) : 1 ≤ (enc u).length := by
  by_cases h : u < 128
  · rw [enc_small h]; simp
  · rw [enc_big h]; simp
theorem at_len (P R : List Int) (x d : Int) : (P ++ x :: R).getD P.length d = x := by
  rw [List.getD_eq_getElem?_getD, List.getElem?_append_right (Nat.le_refl _)]; simp
theorem readLoop (u : Nat) : ∀ (a s V : Nat) (P R : List Int), a < 2 ^ (7 * s) → s + (enc u).length ≤ 5 → a + u * 2 ^ (7 * s) = V → V ≤ 1000000000000 → (P ++ enc u ++ R).length ≤ 1000000000 →
    EvL (fun k j => impl_unpacker_num_h0_3 k j (a : Int) ((7 * s : Nat) : Int) (P ++ enc u ++ R) (P.length : Int)) ((V : Int) - 1, (P ++ enc u ++ R, ((P ++ enc u).length : Int), (), ()), ()) := by
  induction u using Nat.strongRecOn with
  | _ u ih =>
    intro a s V P R ha hs hV hV2 hl
    have h1 := enc_pos u
    have hs4 : s ≤ 4 := by omega
    obtain ⟨p1, p2⟩ := pow_le s hs4
    refine EvL.step (fun k j => impl_unpacker_num_h0_3_eq k j (a : Int) ((7 * s : Nat) : Int) (P ++ enc u ++ R) (P.length : Int)) ?_
    have hlt : P.length < (P ++ enc u ++ R).length := by simp only [List.length_append]; omega
    have c1 : ¬ ((P.length : Int) ≥ ((P ++ enc u ++ R).length : Int)) := by omega
    have c2 : ¬ (((7 * s : Nat) : Int) > 28) := by omega
    have c3 : (0 : Int) ≤ (P.length : Int) := by omega
    have c4 : (P.length : Int) < ((P ++ enc u ++ R).length : Int) := by omega
    have c5 : ¬ (((7 * s : Nat) : Int) < 0) := by omega
    rw [decide_eq_false c1, decide_eq_false c2, decide_eq_true c3, decide_eq_true c4, decide_eq_false c5]
    simp only [cond_false, cond_true, Bool.not_false, Int.toNat_natCast]
    by_cases hu : u < 128
    · have hb : (P ++ enc u ++ R).getD P.length (dflt t_uint8) = (u : Int) := by
        rw [enc_small hu, List.append_assoc]
        exact at_len P R (u : Int) 0
      have hv := orV_eq hs4 ha (show u < 256 by omega)
      rw [Nat.mod_eq_of_lt hu, hV] at hv
      simp only [hb]
      rw [decide_eq_true (show (u : Int) < 128 by omega)]
      refine EvL.cond (fun _ => (EvL.now _).to ?_) fun h => by cases h
      have hlen : (P ++ enc u).length = P.length + 1 := by rw [enc_small hu]; simp
      show (IntKind.i64.wrap (IntKind.i64.wrap (orV (a : Int) (u : Int) ((7 * s : Nat) : Int)) - 1), (P ++ enc u ++ R, IntKind.i64.wrap ((P.length : Int) + 1), (), ()), ()) = _
      rw [hv, w64 (x := (V : Int)) (by omega) (by omega), w64 (by omega) (by omega), w64n P.length (by omega), hlen]
    · have hb : (P ++ enc u ++ R).getD P.length (dflt t_uint8) = ((128 + u % 128 : Nat) : Int) := by
        rw [enc_big hu, List.append_assoc]
        exact at_len P _ _ 0
      have hv := orV_eq hs4 ha (show 128 + u % 128 < 256 by omega)
      have hm : (128 + u % 128) % 128 = u % 128 := by omega
      rw [hm] at hv
      simp only [hb]
      rw [decide_eq_false (show ¬ ((128 + u % 128 : Nat) : Int) < 128 by omega)]
      refine EvL.cond (fun h => by cases h) fun _ => ?_
      have hs' : IntKind.i64.wrap (((7 * s : Nat) : Int) + 7) = ((7 * (s + 1) : Nat) : Int) := by rw [w64 (by omega) (by omega)]; omega
      have hq : 2 ^ (7 * (s + 1)) = 128 * 2 ^ (7 * s) := by rw [show 7 * (s + 1) = 7 * s + 7 by omega, Nat.pow_add]; omega
      have hmm : u % 128 * 2 ^ (7 * s) ≤ 127 * 2 ^ (7 * s) := Nat.mul_le_mul (by omega) (Nat.le_refl _)
      have e1 := enc_big hu
      have hE : P ++ enc u ++ R = (P ++ [((128 + u % 128 : Nat) : Int)]) ++ enc (u / 128) ++ R := by rw [e1]; simp [List.append_assoc]
      have hE2 : P ++ enc u = (P ++ [((128 + u % 128 : Nat) : Int)]) ++ enc (u / 128) := by rw [e1]; simp [List.append_assoc]
      have hlen1 : (enc u).length = (enc (u / 128)).length + 1 := by rw [e1, List.length_cons]
      have hVV : (a + u % 128 * 2 ^ (7 * s)) + u / 128 * 2 ^ (7 * (s + 1)) = V := by
        rw [hq, ← hV]
        have : u * 2 ^ (7 * s) = (u % 128 + 128 * (u / 128)) * 2 ^ (7 * s) := by rw [Nat.mod_add_div]
        rw [this, Nat.add_mul, Nat.mul_assoc, Nat.mul_left_comm (u / 128) 128, Nat.add_assoc]
      have hrec := ih (u / 128) (by omega) (a + u % 128 * 2 ^ (7 * s)) (s + 1) V (P ++ [((128 + u % 128 : Nat) : Int)]) R (by rw [hq]; omega) (by omega) hVV hV2 (by rw [← hE]; exact hl)
      rw [← hE, ← hE2] at hrec
      have hPl : ((P ++ [((128 + u % 128 : Nat) : Int)]).length : Int) = ((P.length + 1 : Nat) : Int) := by simp
      rw [hPl] at hrec
      show EvL (fun k j => impl_unpacker_num_h0_3 k j (orV (a : Int) ((128 + u % 128 : Nat) : Int) ((7 * s : Nat) : Int)) (IntKind.i64.wrap (((7 * s : Nat) : Int) + 7)) (P ++ enc u ++ R) (IntKind.i64.wrap ((P.length : Int) + 1))) _
      rw [hv, hs', w64n P.length (by omega)]
      exact hrec
/-- The bytes from a place on: first those of a number. -/
theorem readNum {B P R : List Int} {v : Int} (hv : NumI v) (hB : B = P ++ (enc (v + 1).toNat ++ R)) (hl : B.length ≤ 1000000000) : Ev (fun k => impl_unpacker_num_h0 k B (P.length : Int)) (v, (B, ((P ++ enc (v + 1).toNat).length : Int), (), ()), ()) := by
  obtain ⟨h0, h1⟩ := hv
  subst hB
  rw [← List.append_assoc] at *
  refine Ev.step (fun k => impl_unpacker_num_h0_eq k _ _) ?_
  have h5 := num_len ⟨h0, h1⟩
  have := readLoop (v + 1).toNat 0 0 (v + 1).toNat P R (by omega) (by omega) (by omega) (by omega) hl
  refine (EvL.ev (L := fun k j => impl_unpacker_num_h0_3 k j 0 0 _ _) this).to ?_
  have : (((v + 1).toNat : Nat) : Int) - 1 = v := by omega
  rw [this]
theorem readCount {B P R : List Int} {n : Nat} {most : Int} (hn : (n : Int) ≤ most) (hn2 : n ≤ 1000000) (hB : B = P ++ (enc (n + 1) ++ R)) (hl : B.length ≤ 1000000000) : Ev (fun k => impl_unpacker_count_h0 k most B (P.length : Int)) ((n : Int), (B, ((P ++ enc (n + 1)).length : Int), (), ()), ()) := by
  refine Ev.step (fun k => impl_unpacker_count_h0_eq k most B (P.length : Int)) ?_
  have e : ((n : Int) + 1).toNat = n + 1 := by omega
  have h1 := readNum (B := B) (P := P) (R := R) (v := (n : Int)) ⟨by omega, by omega⟩ (by rw [e]; exact hB) hl
  rw [e] at h1
  refine Ev.bind h1 (Ev.bind (b := inB (n : Int) 0 most) (Ev.of 1 fun m => implIn m (n : Int) 0 most) ?_)
  rw [show inB (n : Int) 0 most = true by unfold inB; rw [decide_eq_true (show (0 : Int) ≤ (n : Int) by omega), decide_eq_true hn]; rfl]
  exact Ev.cond (fun h => by cases h) fun _ => Ev.now _
theorem readNumsL (l : List Int) : ∀ (B P R acc : List Int) (i n : Nat), (∀ v ∈ l, NumI v) → B = P ++ (encs l ++ R) → B.length ≤ 1000000000 → n = i + l.length → n ≤ 1000000 → acc.length + l.length ≤ 1000000 →
    EvL (fun k j => impl_unpacker_nums_h0_3 k j (n : Int) (i : Int) B (P.length : Int) acc) (acc ++ l, (B, ((P ++ encs l).length : Int), (), ()), ()) := by
  induction l with
  | nil =>
    intro B P R acc i n hN hB hl hn hnn ha
    refine EvL.step (fun k j => impl_unpacker_nums_h0_3_eq k j (n : Int) (i : Int) B (P.length : Int) acc) ?_
    rw [decide_eq_false (show ¬ (i : Int) < (n : Int) by simp at hn; omega)]
    refine EvL.cond (fun h => by cases h) fun _ => (EvL.now _).to ?_
    simp [encs]
  | cons v l ih =>
    intro B P R acc i n hN hB hl hn hnn ha
    rw [List.length_cons] at hn ha
    have e : encs (v :: l) = enc (v + 1).toNat ++ encs l := rfl
    rw [e] at hB ⊢
    refine EvL.step (fun k j => impl_unpacker_nums_h0_3_eq k j (n : Int) (i : Int) B (P.length : Int) acc) ?_
    rw [decide_eq_true (show (i : Int) < (n : Int) by omega)]
    refine EvL.cond (fun _ => ?_) fun h => by cases h
    refine EvL.bind (readNum (R := encs l ++ R) (hN v List.mem_cons_self) (by rw [hB, List.append_assoc]) hl) ?_
    refine EvL.cond (fun _ => ?_) fun h => absurd (of_decide_eq_false h) (by simp only [List.length_singleton]; omega)
    have := ih B (P ++ enc (v + 1).toNat) R (acc ++ [v]) (i + 1) n (fun u hu => hN u (List.mem_cons_of_mem _ hu)) (by rw [hB]; simp only [List.append_assoc]) hl (by omega) hnn (by rw [List.length_append, List.length_singleton]; omega)
    rw [show acc ++ [v] ++ l = acc ++ v :: l by simp, List.append_assoc P] at this
    rw [w64n i (by omega)]
    exact this
theorem readNums {B P R l : List Int} {most : Int} (hN : ∀ v ∈ l, NumI v) (hm : (l.length : Int) ≤ most) (hl2 : l.length ≤ 1000) (hB : B = P ++ (numsP l ++ R)) (hl : B.length ≤ 1000000000) :
    Ev (fun k => impl_unpacker_nums_h0 k most B (P.length : Int)) (l, (B, ((P ++ numsP l).length : Int), (), ()), ()) := by
  refine Ev.step (fun k => impl_unpacker_nums_h0_eq k most B (P.length : Int)) ?_
  have hB' : B = P ++ (enc (l.length + 1) ++ (encs l ++ R)) := by rw [hB]; unfold numsP; simp only [List.append_assoc]
  refine Ev.bind (readCount hm (by omega) hB' hl) ?_
  have := readNumsL l B (P ++ enc (l.length + 1)) R [] 0 l.length hN (by rw [hB']; simp only [List.append_assoc]) hl (by omega) (by omega) (by simp; omega)
  have e : P ++ enc (l.length + 1) ++ encs l = P ++ numsP l := by unfold numsP; rw [List.append_assoc]
  rw [e] at this
  exact EvL.ev (L := fun k j => impl_unpacker_nums_h0_3 k j (l.length : Int) 0 B _ []) this
def encE (e : Ev7) : List Int := enc (e.1 + 1).toNat ++ enc (e.2.1 + 1).toNat ++ enc (e.2.2.1 + 1).toNat ++ enc (e.2.2.2.1 + 1).toNat ++ enc (e.2.2.2.2.1 + 1).toNat ++ enc (e.2.2.2.2.2.1 + 1).toNat ++ enc (e.2.2.2.2.2.2 + 1).toNat
theorem encE_eq (e : Ev7) : encs (evL e) = encE e := by
  unfold encs evL encE
  simp only [List.flatMap_cons, List.flatMap_nil, List.append_nil, List.append_assoc]
theorem numE_all {e : Ev7} (h : NumE e) : NumI e.1 ∧ NumI e.2.1 ∧ NumI e.2.2.1 ∧ NumI e.2.2.2.1 ∧ NumI e.2.2.2.2.1 ∧ NumI e.2.2.2.2.2.1 ∧ NumI e.2.2.2.2.2.2 :=
  ⟨h _ (by simp [evL]), h _ (by simp [evL]), h _ (by simp [evL]), h _ (by simp [evL]), h _ (by simp [evL]), h _ (by simp [evL]), h _ (by simp [evL])⟩
def encO (e : Ou5) : List Int := enc (e.1 + 1).toNat ++ enc (e.2.1 + 1).toNat ++ enc (e.2.2.1 + 1).toNat ++ enc (e.2.2.2.1 + 1).toNat ++ enc (e.2.2.2.2 + 1).toNat
theorem encO_eq (e : Ou5) : encs (ouL e) = encO e := by
  unfold encs ouL encO
  simp only [List.flatMap_cons, List.flatMap_nil, List.append_nil, List.append_assoc]
theorem numO_all {e : Ou5} (h : NumO e) : NumI e.1 ∧ NumI e.2.1 ∧ NumI e.2.2.1 ∧ NumI e.2.2.2.1 ∧ NumI e.2.2.2.2 :=
  ⟨h _ (by simp [ouL]), h _ (by simp [ouL]), h _ (by simp [ouL]), h _ (by simp [ouL]), h _ (by simp [ouL])⟩
theorem readEvL (l : List Ev7) : ∀ (B P R : List Int) (acc : List Ev7) (i n : Nat), (∀ e ∈ l, NumE e) → B = P ++ (evs l ++ R) → B.length ≤ 1000000000 → n = i + l.length → n ≤ 1000000 → acc.length + l.length ≤ 1000000 →
    EvL (fun k j => impl_unpacker_events_h0_3 k j (n : Int) (i : Int) B (P.length : Int) acc) (acc ++ l, (B, ((P ++ evs l).length : Int), (), ()), ()) := by
  induction l with
  | nil =>
    intro B P R acc i n hN hB hl hn hnn ha
    refine EvL.step (fun k j => impl_unpacker_events_h0_3_eq k j (n : Int) (i : Int) B (P.length : Int) acc) ?_
    rw [decide_eq_false (show ¬ (i : Int) < (n : Int) by simp at hn; omega)]
    refine EvL.cond (fun h => by cases h) fun _ => (EvL.now _).to ?_
    simp [evs]
  | cons v l ih =>
    intro B P R acc i n hN hB hl hn hnn ha
    rw [List.length_cons] at hn ha
    obtain ⟨v1, v2, v3, v4, v5, v6, v7⟩ := v
    have hv := hN _ List.mem_cons_self
    have e : evs ((v1, v2, v3, v4, v5, v6, v7) :: l) = encs (evL (v1, v2, v3, v4, v5, v6, v7)) ++ evs l := rfl
    have e2 : encs (evL (v1, v2, v3, v4, v5, v6, v7)) = encE (v1, v2, v3, v4, v5, v6, v7) := encE_eq _
    rw [e, e2] at hB ⊢
    unfold encE at hB ⊢
    simp only [List.append_assoc] at hB
    obtain ⟨n1, n2, n3, n4, n5, n6, n7⟩ := numE_all hv
    refine EvL.step (fun k j => impl_unpacker_events_h0_3_eq k j (n : Int) (i : Int) B (P.length : Int) acc) ?_
    rw [decide_eq_true (show (i : Int) < (n : Int) by omega)]
    refine EvL.cond (fun _ => ?_) fun h => by cases h
    refine EvL.bind (readNum n1 hB hl) ?_
    refine EvL.bind (readNum (P := P ++ _) n2 (by rw [hB]; simp only [List.append_assoc]; rfl) hl) ?_
    refine EvL.bind (readNum (P := P ++ _ ++ _) n3 (by rw [hB]; simp only [List.append_assoc]; rfl) hl) ?_
    refine EvL.bind (readNum (P := P ++ _ ++ _ ++ _) n4 (by rw [hB]; simp only [List.append_assoc]; rfl) hl) ?_
    refine EvL.bind (readNum (P := P ++ _ ++ _ ++ _ ++ _) n5 (by rw [hB]; simp only [List.append_assoc]; rfl) hl) ?_
    refine EvL.bind (readNum (P := P ++ _ ++ _ ++ _ ++ _ ++ _) n6 (by rw [hB]; simp only [List.append_assoc]; rfl) hl) ?_
    refine EvL.bind (readNum (P := P ++ _ ++ _ ++ _ ++ _ ++ _ ++ _) n7 (by rw [hB]; simp only [List.append_assoc]; rfl) hl) ?_
    refine EvL.bind (b := (v1, v2, v3, v4, v5, v6, v7)) (Ev.of 1 fun m => impl_eventKey_event_eq m _) ?_
    refine EvL.cond (fun _ => ?_) fun h => absurd (of_decide_eq_false h) (by simp only [List.length_singleton]; show ¬ ¬ (acc.length + 1) * 56 ≤ _; omega)
    have := ih B (P ++ enc (v1 + 1).toNat ++ enc (v2 + 1).toNat ++ enc (v3 + 1).toNat ++ enc (v4 + 1).toNat ++ enc (v5 + 1).toNat ++ enc (v6 + 1).toNat ++ enc (v7 + 1).toNat) R (acc ++ [(v1, v2, v3, v4, v5, v6, v7)]) (i + 1) n (fun u hu => hN u (List.mem_cons_of_mem _ hu)) (by rw [hB]; simp only [List.append_assoc]) hl (by omega) hnn (by rw [List.length_append, List.length_singleton]; omega)
    rw [show acc ++ [(v1, v2, v3, v4, v5, v6, v7)] ++ l = acc ++ (v1, v2, v3, v4, v5, v6, v7) :: l by simp] at this
    rw [w64n i (by omega)]
    refine this.to ?_
    simp only [List.append_assoc]
theorem readOuL (l : List Ou5) : ∀ (B P R : List Int) (acc : List Ou5) (i n : Nat), (∀ e ∈ l, NumO e) → B = P ++ (ous l ++ R) → B.length ≤ 1000000000 → n = i + l.length → n ≤ 1000000 → acc.length + l.length ≤ 1000000 →
    EvL (fun k j => impl_unpacker_outs_h0_3 k j (n : Int) (i : Int) B (P.length : Int) acc) (acc ++ l, (B, ((P ++ ous l).length : Int), (), ()), ()) := by
  induction l with
  | nil =>
    intro B P R acc i n hN hB hl hn hnn ha
    refine EvL.step (fun k j => impl_unpacker_outs_h0_3_eq k j (n : Int) (i : Int) B (P.length : Int) acc) ?_
    rw [decide_eq_false (show ¬ (i : Int) < (n : Int) by simp at hn; omega)]
    refine EvL.cond (fun h => by cases h) fun _ => (EvL.now _).to ?_
    simp [ous]
  | cons v l ih =>
    intro B P R acc i n hN hB hl hn hnn ha
    rw [List.length_cons] at hn ha
    obtain ⟨v1, v2, v3, v4, v5⟩ := v
    have hv := hN _ List.mem_cons_self
    have e : ous ((v1, v2, v3, v4, v5) :: l) = encs (ouL (v1, v2, v3, v4, v5)) ++ ous l := rfl
    have e2 : encs (ouL (v1, v2, v3, v4, v5)) = encO (v1, v2, v3, v4, v5) := encO_eq _
    rw [e, e2] at hB ⊢
    unfold encO at hB ⊢
    simp only [List.append_assoc] at hB
    obtain ⟨n1, n2, n3, n4, n5⟩ := numO_all hv
    refine EvL.step (fun k j => impl_unpacker_outs_h0_3_eq k j (n : Int) (i : Int) B (P.length : Int) acc) ?_
    rw [decide_eq_true (show (i : Int) < (n : Int) by omega)]
    refine EvL.cond (fun _ => ?_) fun h => by cases h
    refine EvL.bind (readNum n1 hB hl) ?_
    refine EvL.bind (readNum (P := P ++ _) n2 (by rw [hB]; simp only [List.append_assoc]; rfl) hl) ?_
    refine EvL.bind (readNum (P := P ++ _ ++ _) n3 (by rw [hB]; simp only [List.append_assoc]; rfl) hl) ?_
    refine EvL.bind (readNum (P := P ++ _ ++ _ ++ _) n4 (by rw [hB]; simp only [List.append_assoc]; rfl) hl) ?_
    refine EvL.bind (readNum (P := P ++ _ ++ _ ++ _ ++ _) n5 (by rw [hB]; simp only [List.append_assoc]; rfl) hl) ?_
    refine EvL.cond (fun _ => ?_) fun h => absurd (of_decide_eq_false h) (by simp only [List.length_singleton]; show ¬ ¬ (acc.length + 1) * 40 ≤ _; omega)
    have := ih B (P ++ enc (v1 + 1).toNat ++ enc (v2 + 1).toNat ++ enc (v3 + 1).toNat ++ enc (v4 + 1).toNat ++ enc (v5 + 1).toNat) R (acc ++ [(v1, v2, v3, v4, v5)]) (i + 1) n (fun u hu => hN u (List.mem_cons_of_mem _ hu)) (by rw [hB]; simp only [List.append_assoc]) hl (by omega) hnn (by rw [List.length_append, List.length_singleton]; omega)
    rw [show acc ++ [(v1, v2, v3, v4, v5)] ++ l = acc ++ (v1, v2, v3, v4, v5) :: l by simp] at this
    rw [w64n i (by omega)]
    refine this.to ?_
    simp only [List.append_assoc]
theorem readEvs {B P R : List Int} {l : List Ev7} (hN : ∀ e ∈ l, NumE e) (hm : (l.length : Int) ≤ 100) (hB : B = P ++ ((enc (l.length + 1) ++ evs l) ++ R)) (hl : B.length ≤ 1000000000) :
    Ev (fun k => impl_unpacker_events_h0 k B (P.length : Int)) (l, (B, ((P ++ (enc (l.length + 1) ++ evs l)).length : Int), (), ()), ()) := by
  refine Ev.step (fun k => impl_unpacker_events_h0_eq k B (P.length : Int)) ?_
  have hB' : B = P ++ (enc (l.length + 1) ++ (evs l ++ R)) := by rw [hB]; simp only [List.append_assoc]
  refine Ev.bind (readCount hm (by omega) hB' hl) ?_
  have := readEvL l B (P ++ enc (l.length + 1)) R [] 0 l.length hN (by rw [hB']; simp only [List.append_assoc]) hl (by omega) (by omega) (by simp; omega)
  rw [List.append_assoc] at this
  exact EvL.ev (L := fun k j => impl_unpacker_events_h0_3 k j (l.length : Int) 0 B _ []) this
theorem readOus {B P R : List Int} {l : List Ou5} (hN : ∀ e ∈ l, NumO e) (hm : (l.length : Int) ≤ 96) (hB : B = P ++ ((enc (l.length + 1) ++ ous l) ++ R)) (hl : B.length ≤ 1000000000) :
    Ev (fun k => impl_unpacker_outs_h0 k B (P.length : Int)) (l, (B, ((P ++ (enc (l.length + 1) ++ ous l)).length : Int), (), ()), ()) := by
  refine Ev.step (fun k => impl_unpacker_outs_h0_eq k B (P.length : Int)) ?_
  have hB' : B = P ++ (enc (l.length + 1) ++ (ous l ++ R)) := by rw [hB]; simp only [List.append_assoc]
  refine Ev.bind (readCount hm (by omega) hB' hl) ?_
  have := readOuL l B (P ++ enc (l.length + 1)) R [] 0 l.length hN (by rw [hB']; simp only [List.append_assoc]) hl (by omega) (by omega) (by simp; omega)
  rw [List.append_assoc] at this
  exact EvL.ev (L := fun k j => impl_unpacker_outs_h0_3 k j (l.length : Int) 0 B _ []) this
end Go.Proofs.Ytjgpacfhokpfdaa.SFnWordBack
