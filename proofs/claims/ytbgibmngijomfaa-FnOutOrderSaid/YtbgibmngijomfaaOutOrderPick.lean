/- A drawn number lies where it should: the place goes on by one, the number is from 0 on and below what was asked. -/
import Derived.Test.YtbgibmngijomfaaXOutOrderx2
import Derived.Laws.Bits64
namespace Go.Proofs.Ytbgibmngijomfaa.XOutOrder
open Go.RowKit Go.Proofs.YtbgibmngijomfaaW.PrintWords Go.Proofs.YtbgibmngijomfaaW.PrintLast

theorem xor_i64_nonneg (a b : Int) (ha : 0 ≤ a) (ha2 : a < 9223372036854775808) (hb : 0 ≤ b) (hb2 : b < 9223372036854775808) : 0 ≤ Go.bits .xor .i64 a b := by
  obtain ⟨x, rfl⟩ := Int.eq_ofNat_of_zero_le ha
  obtain ⟨y, rfl⟩ := Int.eq_ofNat_of_zero_le hb
  have hx : x < 2 ^ 63 := by omega
  have hy : y < 2 ^ 63 := by omega
  have hz : x ^^^ y < 2 ^ 63 := Nat.xor_lt_two_pow hx hy
  have h1 : (BitVec.ofInt 64 (x : Int)).toNat = x := by
    rw [BitVec.ofInt_natCast, BitVec.toNat_ofNat]; exact Nat.mod_eq_of_lt (by omega)
  have h2 : (BitVec.ofInt 64 (y : Int)).toNat = y := by
    rw [BitVec.ofInt_natCast, BitVec.toNat_ofNat]; exact Nat.mod_eq_of_lt (by omega)
  show 0 ≤ IntKind.i64.wrap ((BitVec.ofInt 64 (x : Int) ^^^ BitVec.ofInt 64 (y : Int)).toNat : Int)
  rw [BitVec.toNat_xor, h1, h2]
  simp [IntKind.wrap, IntKind.bits, IntKind.signed]
  omega

theorem rd_byte (l : List Int) (hb : ∀ x ∈ l, 0 ≤ x ∧ x ≤ 255) (i : Int) : 0 ≤ rd l i ∧ rd l i ≤ 255 := by
  unfold rd
  by_cases h : i.toNat < l.length
  · rw [List.getD_eq_getElem?_getD, List.getElem?_eq_getElem h]
    exact hb _ (List.getElem_mem h)
  · rw [List.getD_eq_getElem?_getD, List.getElem?_eq_none (by omega)]
    simp

theorem tmod_range (v n : Int) (hv : 0 ≤ v) (hn : 1 ≤ n) : 0 ≤ Int.tmod v n ∧ Int.tmod v n < n := by
  rw [Int.tmod_eq_emod_of_nonneg hv]
  exact ⟨Int.emod_nonneg _ (by omega), Int.emod_lt_of_pos _ (by omega)⟩

theorem pick_ok (k : Nat) (l : List Int) (p n : Int) (hl : l.length ≤ 2000) (hb : ∀ x ∈ l, 0 ≤ x ∧ x ≤ 255) (hp : 0 ≤ p) (hp2 : p ≤ 1099511627776) :
    ∃ v, spec_l6Rd_pick.f (k + 1) l p n = some (v, p + 1) ∧ 0 ≤ v ∧ (1 ≤ n → v < n) := by
  have w1 : wrap64 (p + 1) = p + 1 := by unfold wrap64; omega
  have w2 : wrap64 (p + 1 - 1) = p := by unfold wrap64; omega
  unfold spec_l6Rd_pick.f
  rw [w1]
  by_cases hn : n < 1
  · rw [if_pos hn]
    simp only [spec_l6Rd_pick.j0]
    exact ⟨0, rfl, by omega, by omega⟩
  rw [if_neg hn]
  by_cases h0 : (l.length : Int) = 0
  · have : ((l.length : Int) == 0) = true := by simpa using h0
    rw [this]
    simp only [spec_l6Rd_pick.j0]
    exact ⟨0, rfl, by omega, by omega⟩
  have : ((l.length : Int) == 0) = false := by simpa using h0
  rw [this]
  simp only [spec_l6Rd_pick.j0, w2]
  rw [if_neg (by decide)]
  by_cases hlt : p < (l.length : Int)
  · rw [if_pos hlt, if_pos hp, if_neg (by omega)]
    have hr := rd_byte l hb p
    have w3 : wrap64 (rd l p) = rd l p := by unfold wrap64; omega
    rw [w3]
    have := tmod_range (rd l p) n hr.1 (by omega)
    exact ⟨_, rfl, this.1, fun _ => this.2⟩
  · rw [if_neg hlt, if_neg h0]
    have hL : (1 : Int) ≤ l.length := by omega
    have hL2 : (l.length : Int) ≤ 2000 := by omega
    have w4 : wrap64 (p * 7) = p * 7 := by unfold wrap64; omega
    have w5 : wrap64 (p * 7 + 3) = p * 7 + 3 := by unfold wrap64; omega
    have t1 := tmod_range p l.length hp hL
    have t2 := tmod_range (p * 7 + 3) l.length (by omega) hL
    rw [w4, w5, if_pos t1.1, if_pos t1.2, if_pos t2.1, if_pos t2.2, if_neg (by omega)]
    have r1 := rd_byte l hb (Int.tmod p l.length)
    have r2 := rd_byte l hb (Int.tmod (p * 7 + 3) l.length)
    generalize rd l (Int.tmod p l.length) = a at r1 ⊢
    generalize rd l (Int.tmod (p * 7 + 3) l.length) = b at r2 ⊢
    have q1 : 0 ≤ Int.tdiv p l.length ∧ Int.tdiv p l.length ≤ p := by
      rw [Int.tdiv_eq_ediv_of_nonneg hp]
      exact ⟨Int.ediv_nonneg hp (by omega), Int.ediv_le_self _ hp⟩
    generalize Int.tdiv p l.length = d at q1 ⊢
    have e1 : wrap64 a = a := by unfold wrap64; omega
    have e2 : wrap64 b = b := by unfold wrap64; omega
    have e3 : wrap64 (a * 131) = a * 131 := by unfold wrap64; omega
    have e4 : wrap64 (b * 1117) = b * 1117 := by unfold wrap64; omega
    have e5 : wrap64 (p * 29) = p * 29 := by unfold wrap64; omega
    have e6 : wrap64 d = d := by unfold wrap64; omega
    have e7 : wrap64 (d * 53) = d * 53 := by unfold wrap64; omega
    have e8 : wrap64 (a * 131 + b * 1117) = a * 131 + b * 1117 := by unfold wrap64; omega
    have e9 : wrap64 (a * 131 + b * 1117 + p * 29) = a * 131 + b * 1117 + p * 29 := by unfold wrap64; omega
    have e10 : wrap64 (a * 131 + b * 1117 + p * 29 + d * 53) = a * 131 + b * 1117 + p * 29 + d * 53 := by unfold wrap64; omega
    rw [e1, e2, e3, e4, e5, e6, e7, e8, e9, e10]
    have hx0 : 0 ≤ a * 131 + b * 1117 + p * 29 + d * 53 := by omega
    have hx1 : a * 131 + b * 1117 + p * 29 + d * 53 < 9223372036854775808 := by omega
    generalize a * 131 + b * 1117 + p * 29 + d * 53 = x at hx0 hx1 ⊢
    have e11 : wrap64 (Int.tdiv x 64) = x / 64 := by
      rw [Int.tdiv_eq_ediv_of_nonneg hx0]; unfold wrap64; omega
    rw [e11]
    have := tmod_range _ n (xor_i64_nonneg x (x / 64) hx0 hx1 (by omega) (by omega)) (by omega)
    exact ⟨_, rfl, this.1, fun _ => this.2⟩

theorem open_ok (l : List Int) : spec_l6Open.f l = some (l.take 2000, 0) := by
  unfold spec_l6Open.f
  by_cases h : (l.length : Int) > 2000
  · rw [if_pos h, if_pos (by omega)]
  · rw [if_neg h, List.take_of_length_le (by omega)]

theorem bytes_of_wf (l : List Int) (h : ∀ x ∈ l, (Lit.int .u8 x).wf = true) : ∀ x ∈ l.take 2000, 0 ≤ x ∧ x ≤ 255 := by
  intro x hx
  have := h x (List.mem_of_mem_take hx)
  simp [Lit.wf, IntKind.min, IntKind.max, IntKind.signed, IntKind.bits] at this
  omega

end Go.Proofs.Ytbgibmngijomfaa.XOutOrder
