/- What the reference draws: each draw answers. -/
import Derived.Test.YtjgpacfhokpfdaaFFnWordBack
import Derived.Test.YtjgpacfhokpfdaaOkPlFnWordBack
set_option linter.unusedVariables false
namespace Go.Proofs.Ytjgpacfhokpfdaa.SFnWordBack
open Go Go.Sx Go.Pl
/-- A reader that has been used so often at most. -/
def RdOk (r : List Int × Int) (m : Nat) : Prop := r.1.length ≤ 2000 ∧ (∀ x ∈ r.1, 0 ≤ x ∧ x ≤ 255) ∧ 0 ≤ r.2 ∧ r.2 ≤ m

theorem openOk (a : List Int) (ha : ∀ x ∈ a, 0 ≤ x ∧ x ≤ 255) : Ok (fun k => spec_l6Open k a) (fun b => RdOk b 0) := by
  refine Ok.step (fun k => spec_l6Open_eq k a) (Ok.cond (fun h => ?_) fun h => ?_)
  · have h : (a.length : Int) > 2000 := of_decide_eq_true h
    refine Ok.chk (by omega) (Ok.some ⟨?_, fun x hx => ha x (List.mem_of_mem_take (List.mem_of_mem_drop hx)), by simp, by simp⟩)
    simp only [List.length_drop, List.length_take]
    have : Int.toNat 2000 = 2000 := rfl
    omega
  · have h : ¬ (a.length : Int) > 2000 := of_decide_eq_false h
    exact Ok.some ⟨by show a.length ≤ 2000; omega, ha, by simp, by simp⟩

theorem xor_pos {A B : Int} (h0 : 0 ≤ A) (h1 : A < 4611686018427387904) (h2 : 0 ≤ B) (h3 : B < 4611686018427387904) :
    0 ≤ IntKind.i64.wrap (((BitVec.ofInt IntKind.i64.bits A ^^^ BitVec.ofInt IntKind.i64.bits B).toNat : Nat) : Int) := by
  have e : (BitVec.ofInt IntKind.i64.bits A ^^^ BitVec.ofInt IntKind.i64.bits B).toNat < 2 ^ 62 := by
    rw [BitVec.toNat_xor, BitVec.toNat_ofInt, BitVec.toNat_ofInt]
    have hb : ((2 ^ IntKind.i64.bits : Nat) : Int) = 18446744073709551616 := rfl
    refine Nat.xor_lt_two_pow ?_ ?_
    · rw [hb]; omega
    · rw [hb]; omega
  rw [w64 (by omega) (by omega)]
  omega

theorem tmod_in {x n : Int} (h0 : 0 ≤ x) (h1 : 0 < n) : 0 ≤ x.tmod n ∧ x.tmod n < n := by
  rw [Int.tmod_eq_emod_of_nonneg h0]
  exact ⟨Int.emod_nonneg _ (by omega), Int.emod_lt_of_pos _ h1⟩

theorem byte_at {b : List Int} (hb : ∀ x ∈ b, 0 ≤ x ∧ x ≤ 255) (i : Nat) : 0 ≤ b.getD i (dflt t_uint8) ∧ b.getD i (dflt t_uint8) ≤ 255 := by
  show 0 ≤ b.getD i (0 : Int) ∧ b.getD i (0 : Int) ≤ 255
  rw [List.getD_eq_getElem?_getD]
  cases h : b[i]? with
  | none => simp
  | some x => exact hb x (List.mem_of_getElem? h)

theorem pickOk {n : Int} {r : List Int × Int} {m : Nat} (hr : RdOk r m) (hm : m < 1000000000) (hn : n ≤ 2147483648) :
    Ok (fun k => spec_l6Rd_pick_h0 k n r) (fun b => 0 ≤ b.1 ∧ (1 ≤ n → b.1 < n) ∧ RdOk (b.2.1.1, b.2.1.2.1) (m + 1)) := by
  obtain ⟨b, p⟩ := r
  obtain ⟨h1, h2, h3, h4⟩ := hr
  simp only at h1 h2 h3 h4
  have e1 : IntKind.i64.wrap (p + 1) = p + 1 := w64 (by omega) (by omega)
  have e2 : IntKind.i64.wrap (p + 1 - 1) = p := by rw [w64 (by omega) (by omega)]; omega
  have hend : ∀ v : Int, 0 ≤ v → (1 ≤ n → v < n) → 0 ≤ v ∧ (1 ≤ n → v < n) ∧ RdOk (b, p + 1) (m + 1) := fun v hv hv' => ⟨hv, hv', h1, h2, by show 0 ≤ p + 1; omega, by show p + 1 ≤ ((m + 1 : Nat) : Int); omega⟩
  refine Ok.step (fun k => spec_l6Rd_pick_h0_eq k n (b, p)) ?_
  simp only [e1, e2]
  refine Ok.cond (fun h => ?_) fun h => ?_
  · have h : n < 1 := of_decide_eq_true h
    exact Ok.some (hend 0 (by omega) (by omega))
  have hn1 : ¬ n < 1 := of_decide_eq_false h
  refine Ok.cond (fun h => ?_) fun h => ?_
  · exact Ok.some (hend 0 (by omega) (by omega))
  have hl : 0 < (b.length : Int) := by
    have : ¬ (b.length : Int) = 0 := by simpa using h
    omega
  have hne : (!decide (n = 0)) = true := by rw [decide_eq_false (by omega)]; rfl
  have hne2 : (!decide ((b.length : Int) = 0)) = true := by rw [decide_eq_false (by omega)]; rfl
  refine Ok.cond (fun h => ?_) fun h => ?_
  · have h : p < (b.length : Int) := of_decide_eq_true h
    refine Ok.chk h3 (Ok.chk h ?_)
    rw [hne]
    have hb := byte_at h2 p.toNat
    rw [w64 (by omega) (by omega)]
    have := tmod_in hb.1 (by omega : 0 < n)
    exact Ok.some (hend _ this.1 fun _ => this.2)
  · have hp := tmod_in h3 hl
    have e3 : IntKind.i64.wrap (IntKind.i64.wrap (p * 7) + 3) = p * 7 + 3 := by rw [w64 (x := p * 7) (by omega) (by omega), w64 (by omega) (by omega)]
    have hq := tmod_in (by omega : 0 ≤ p * 7 + 3) hl
    simp only [hne2, cond_true, e3]
    refine Ok.chk hp.1 (Ok.chk hp.2 (Ok.chk hq.1 (Ok.chk hq.2 ?_)))
    have b1 := byte_at h2 (p.tmod (b.length : Int)).toNat
    have b2 := byte_at h2 ((p * 7 + 3).tmod (b.length : Int)).toNat
    generalize List.getD b (p.tmod (b.length : Int)).toNat (dflt t_uint8) = x1 at b1 ⊢
    generalize List.getD b ((p * 7 + 3).tmod (b.length : Int)).toNat (dflt t_uint8) = x2 at b2 ⊢
    have q0 : 0 ≤ p.tdiv (b.length : Int) := Int.tdiv_nonneg h3 (by omega)
    have q1 : p.tdiv (b.length : Int) ≤ p := Int.tdiv_le_self _ h3
    generalize p.tdiv (b.length : Int) = d at q0 q1 ⊢
    have f0 : IntKind.i64.wrap d = d := w64 (by omega) (by omega)
    have f1 : IntKind.i64.wrap x1 = x1 := w64 (by omega) (by omega)
    have f2 : IntKind.i64.wrap x2 = x2 := w64 (by omega) (by omega)
    have f3 : IntKind.i64.wrap (x1 * 131) = x1 * 131 := w64 (by omega) (by omega)
    have f4 : IntKind.i64.wrap (x2 * 1117) = x2 * 1117 := w64 (by omega) (by omega)
    have f5 : IntKind.i64.wrap (x1 * 131 + x2 * 1117) = x1 * 131 + x2 * 1117 := w64 (by omega) (by omega)
    have f6 : IntKind.i64.wrap (p * 29) = p * 29 := w64 (by omega) (by omega)
    have f7 : IntKind.i64.wrap (x1 * 131 + x2 * 1117 + p * 29) = x1 * 131 + x2 * 1117 + p * 29 := w64 (by omega) (by omega)
    have f8 : IntKind.i64.wrap (d * 53) = d * 53 := w64 (by omega) (by omega)
    have f9 : IntKind.i64.wrap (x1 * 131 + x2 * 1117 + p * 29 + d * 53) = x1 * 131 + x2 * 1117 + p * 29 + d * 53 := w64 (by omega) (by omega)
    simp only [f0, f1, f2, f3, f4, f5, f6, f7, f8, f9]
    have g0 : 0 ≤ x1 * 131 + x2 * 1117 + p * 29 + d * 53 := by omega
    have g1 : x1 * 131 + x2 * 1117 + p * 29 + d * 53 < 4611686018427387904 := by omega
    generalize x1 * 131 + x2 * 1117 + p * 29 + d * 53 = A at g0 g1 ⊢
    have g2 : 0 ≤ A.tdiv 64 := Int.tdiv_nonneg g0 (by omega)
    have g3 : A.tdiv 64 ≤ A := Int.tdiv_le_self _ g0
    have f10 : IntKind.i64.wrap (A.tdiv 64) = A.tdiv 64 := w64 (by omega) (by omega)
    simp only [f10, hne, cond_true]
    have hx := xor_pos g0 g1 g2 (by omega)
    have := tmod_in hx (by omega : 0 < n)
    exact Ok.some (hend _ this.1 fun _ => this.2)

theorem l72EventOk {r : List Int × Int} {m : Nat} (hr : RdOk r m) (hm : m < 100000000) :
    Ok (fun k => spec_l72Event_h0 k r) (fun b => RdOk (b.2.1.1, b.2.1.2.1) (m + 9)) := by
  have up : ∀ {r : List Int × Int} {i j : Nat}, i ≤ j → RdOk r i → RdOk r j := fun hij h => ⟨h.1, h.2.1, h.2.2.1, by have := h.2.2.2; omega⟩
  refine Ok.step (fun k => spec_l72Event_h0_eq k r) ?_
  refine Ok.bind (pickOk hr (by omega) (by omega)) fun x0 h0 => ?_
  refine Ok.bind (pickOk h0.2.2 (by omega) (by omega)) fun x1 h1 => ?_
  refine Ok.bind (pickOk h1.2.2 (by omega) (by omega)) fun x2 h2 => ?_
  refine Ok.bind (pickOk h2.2.2 (by omega) (by omega)) fun x3 h3 => ?_
  refine Ok.bind (pickOk h3.2.2 (by omega) (by omega)) fun x4 h4 => ?_
  refine Ok.bind (pickOk h4.2.2 (by omega) (by omega)) fun x5 h5 => ?_
  refine Ok.bind (pickOk h5.2.2 (by omega) (by omega)) fun x6 h6 => ?_
  refine Ok.bind (pickOk h6.2.2 (by omega) (by omega)) fun x7 h7 => ?_
  refine Ok.cond (fun _ => ?_) fun _ => ?_
  · refine Ok.bind (pickOk h7.2.2 (by omega) (by omega)) fun x8 h8 => ?_
    have := h8.2.1 (by omega)
    exact Ok.chk h8.1 (Ok.chk (by simp; omega) (Ok.chk (by simp; omega) (Ok.some h8.2.2)))
  refine Ok.cond (fun _ => ?_) fun _ => ?_
  · refine Ok.bind (pickOk h7.2.2 (by omega) (by omega)) fun x8 h8 => ?_
    have := h8.2.1 (by omega)
    exact Ok.chk h8.1 (Ok.chk (by simp; omega) (Ok.chk (by simp; omega) (Ok.some h8.2.2)))
  refine Ok.cond (fun _ => ?_) fun _ => ?_
  · refine Ok.bind (pickOk h7.2.2 (by omega) (by omega)) fun x8 h8 => ?_
    have := h8.2.1 (by omega)
    exact Ok.chk h8.1 (Ok.chk (by simp; omega) (Ok.chk (by simp; omega) (Ok.some h8.2.2)))
  · exact Ok.some (up (by omega) h7.2.2)

end Go.Proofs.Ytjgpacfhokpfdaa.SFnWordBack
