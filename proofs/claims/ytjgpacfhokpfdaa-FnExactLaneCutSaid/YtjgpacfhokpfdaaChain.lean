/- A list is made a chain of links: the walk of chainOf and add; that it is the list by links. No condition. -/
import Derived.Test.YtjgpacfhokpfdaaProg
import Derived.Test.YtjgpacfhokpfdaaSx24
import Derived.WalkKit
import Derived.Calls
import Derived.Lib.Hide
set_option linter.unusedVariables false
namespace Go.Proofs.YtjgpacfhokpfdaaChain
open Go Go.RowKit
theorem add_first (w : World) (gc : Nat) (x0 x1 x2 x3 x4 x5 x6 x7 x8 x9 x10 x11 : Value) (hlt : gc < w.heap.size) (hc0 : w.cell? ⟨gc, 0, none⟩ = some (.pointer none)) (hc1 : w.cell? ⟨gc, 1, none⟩ = some (.pointer none))
    (hf0 : w.frozen? ⟨gc, 0, none⟩ = false) (hf1 : w.frozen? ⟨gc, 1, none⟩ = false) :
    Calls Try.prog 157 #[.pointer (some ⟨gc, 0, none⟩), .agg #[x0, x1, x2, x3, x4, x5, x6, x7, x8, x9, x10, x11]] w fun e w' => e = .returned (.tuple #[]) ∧ 
     w' = (((w.setCell ⟨gc, 0, none⟩ (.pointer (some ⟨w.heap.size + 1, 0, none⟩))).setCell ⟨gc, 1, none⟩ (.pointer (some ⟨w.heap.size + 1, 0, none⟩))).alloc (.cells #[x0, x1, x2, x3, x4, x5, x6, x7, x8, x9, x10, x11] 96)).alloc
                (.cells #[x0, x1, x2, x3, x4, x5, x6, x7, x8, x9, x10, x11, .pointer none] 189) := by
  go_enter Try.func157, Try.ntmps157
  go_wp2
  exact bodyPost_end (results_none rfl _ _ _) rfl ⟨rfl, rfl⟩
theorem add_more (w : World) (gc gl : Nat) (x0 x1 x2 x3 x4 x5 x6 x7 x8 x9 x10 x11 : Value) (hlt : gc < w.heap.size) (hlt2 : gl < w.heap.size) (hc1 : w.cell? ⟨gc, 1, none⟩ = some (.pointer (some ⟨gl, 0, none⟩)))
    (hf1 : w.frozen? ⟨gc, 1, none⟩ = false) (hg : w.cell? ⟨gl, 12, none⟩ = some (.pointer none)) (hfg : w.frozen? ⟨gl, 12, none⟩ = false) :
    Calls Try.prog 157 #[.pointer (some ⟨gc, 0, none⟩), .agg #[x0, x1, x2, x3, x4, x5, x6, x7, x8, x9, x10, x11]] w fun e w' => e = .returned (.tuple #[]) ∧ 
     w' = (((w.setCell ⟨gl, 12, none⟩ (.pointer (some ⟨w.heap.size + 1, 0, none⟩))).setCell ⟨gc, 1, none⟩ (.pointer (some ⟨w.heap.size + 1, 0, none⟩))).alloc (.cells #[x0, x1, x2, x3, x4, x5, x6, x7, x8, x9, x10, x11] 96)).alloc
                (.cells #[x0, x1, x2, x3, x4, x5, x6, x7, x8, x9, x10, x11, .pointer none] 189) := by
  go_enter Try.func157, Try.ntmps157
  go_wp2
  exact bodyPost_end (results_none rfl _ _ _) rfl ⟨rfl, rfl⟩

def PastRow (r : List Value) : Prop := ∃ (n0 n1 n2 n3 n4 n5 n6 n7 n8 n9 : Int) (p1 : Option Addr) (l1 c1 : Nat) (p2 : Option Addr) (l2 c2 : Nat), r = [.int .i64 n0, .int .i64 n1, .int .i64 n2, .int .i64 n3, .int .i64 n4, .int .i64 n5, .int .i64 n6, .int .i64 n7, .int .i64 n8, .int .i64 n9, .slice p1 l1 c1, .slice p2 l2 c2]
def Seg (w : World) (lo hi L : Nat) : List (List Value) → Option Addr → Option Addr → Prop
  | [], p, q => p = q
  | r :: rs, p, q => ∃ g nx, p = some ⟨g, 0, none⟩ ∧ lo ≤ g ∧ g < hi ∧ w.heap[g]? = some (.cells (r ++ [Value.pointer nx]).toArray L (0, 0)) ∧ Seg w lo hi L rs nx q
/-- A chain of so many rows, its head at that block. -/
def Chn (w : World) (gc CH L : Nat) (rows : Nat → List Value) (k : Nat) : Prop := gc < w.heap.size ∧ ∃ p0 pl, w.heap[gc]? = some (.cells #[.pointer p0, .pointer pl] CH (0, 0)) ∧
  ((k = 0 ∧ p0 = none ∧ pl = none) ∨ ∃ gl j, k = j + 1 ∧ pl = some ⟨gl, 0, none⟩ ∧ gc < gl ∧ gl < w.heap.size ∧ Seg w (gc + 1) gl L ((List.range j).map rows) p0 pl ∧ w.heap[gl]? = some (.cells (rows j ++ [Value.pointer none]).toArray L (0, 0)))

section
variable {w w' : World} {lo hi hi' L : Nat}
theorem Seg.mono (hw : ∀ g, lo ≤ g → g < hi → w'.heap[g]? = w.heap[g]?) (hh : hi ≤ hi') : ∀ {rs : List (List Value)} {p q : Option Addr}, Seg w lo hi L rs p q → Seg w' lo hi' L rs p q
  | [], _, _, h => h
  | r :: rs, p, q, ⟨g, nx, hp, h1, h2, hg, hs⟩ => ⟨g, nx, hp, h1, Nat.lt_of_lt_of_le h2 hh, (hw g h1 h2).trans hg, Seg.mono hw hh hs⟩
theorem Seg.snoc {g : Nat} {r : List Value} {nx : Option Addr} (h1 : lo ≤ g) (h2 : g < hi) (hg : w.heap[g]? = some (.cells (r ++ [Value.pointer nx]).toArray L (0, 0))) : ∀ {rs : List (List Value)} {p : Option Addr}, Seg w lo hi L rs p (some ⟨g, 0, none⟩) → Seg w lo hi L (rs ++ [r]) p nx
  | [], _, rfl => ⟨g, nx, rfl, h1, h2, hg, rfl⟩
  | _ :: rs, p, ⟨g', nx', hp, h1', h2', hg', hs⟩ => ⟨g', nx', hp, h1', h2', hg', Seg.snoc h1 h2 hg hs⟩
end
theorem Chn.alloc {w : World} {gc CH L : Nat} {rows : Nat → List Value} {k : Nat} (o : Obj) (h : Chn w gc CH L rows k) : Chn (w.alloc o) gc CH L rows k := by
  obtain ⟨hlt, p0, pl, hg, hc⟩ := h
  refine ⟨by simp; omega, p0, pl, (Below.heap_alloc w o gc hlt).trans hg, ?_⟩
  rcases hc with hc | ⟨gl, j, rfl, rfl, h1, h2, hs, hl⟩
  · exact .inl hc
  · exact .inr ⟨gl, j, rfl, rfl, h1, by simp; omega, hs.mono (fun g _ hg => Below.heap_alloc w o g (by omega)) (Nat.le_refl _), (Below.heap_alloc w o gl h2).trans hl⟩
theorem alloc_new (w : World) (o : Obj) : (w.alloc o).heap[w.heap.size]? = some o := by
  show (w.heap.push o)[w.heap.size]? = _
  rw [Array.getElem?_push, if_pos rfl]
theorem cell_of {w : World} {g t off : Nat} {cs : Array Value} {v : Value} (h : w.heap[g]? = some (.cells cs t (0, 0))) (hv : cs[off]? = some v) : w.cell? ⟨g, off, none⟩ = some v := by
  simp [World.cell?, h, hv]
theorem froz_of {w : World} {g t off : Nat} {cs : Array Value} (h : w.heap[g]? = some (.cells cs t (0, 0))) : w.frozen? ⟨g, off, none⟩ = false := by
  simp [World.frozen?, h]
theorem add_step (w : World) (gc : Nat) (rows : Nat → List Value) (k : Nat) (x0 x1 x2 x3 x4 x5 x6 x7 x8 x9 x10 x11 : Value) (hr : rows k = [x0, x1, x2, x3, x4, x5, x6, x7, x8, x9, x10, x11]) (hall : ∀ i, i ≤ k → (rows i).length = 12) (h : Chn w gc 186 189 rows k) :
    Calls Try.prog 157 #[.pointer (some ⟨gc, 0, none⟩), .agg #[x0, x1, x2, x3, x4, x5, x6, x7, x8, x9, x10, x11]] w fun e w' => e = .returned (.tuple #[]) ∧ Below gc w w' ∧ Chn w' gc 186 189 rows (k + 1) := by
  obtain ⟨hlt, p0, pl, hg, hc⟩ := h
  rcases hc with ⟨rfl, rfl, rfl⟩ | ⟨gl, j, rfl, rfl, h1, h2, hs, hl⟩
  · refine (add_first w gc x0 x1 x2 x3 x4 x5 x6 x7 x8 x9 x10 x11 hlt (cell_of hg rfl) (cell_of hg rfl) (froz_of hg) (froz_of hg)).mono ?_
    rintro e w' ⟨rfl, rfl⟩
    refine ⟨rfl, (((Below.refl gc w).setCell (Nat.le_refl _) _).setCell (Nat.le_refl _) _).alloc (by simp; omega) _ |>.alloc (by simp; omega) _, by simp; omega, _, _, ?_, .inr ⟨w.heap.size + 1, 0, rfl, rfl, by omega, by simp, rfl, ?_⟩⟩
    · rw [Below.heap_alloc _ _ _ (by simp; omega), Below.heap_alloc _ _ _ (by simp; omega), heap_setCell_same _ _ _ _ _ _ (heap_setCell_same _ _ _ _ _ _ hg)]
      rfl
    · rw [hr]
      have := alloc_new (((w.setCell ⟨gc, 0, none⟩ (.pointer (some ⟨w.heap.size + 1, 0, none⟩))).setCell ⟨gc, 1, none⟩ (.pointer (some ⟨w.heap.size + 1, 0, none⟩))).alloc (.cells #[x0, x1, x2, x3, x4, x5, x6, x7, x8, x9, x10, x11] 96)) (.cells #[x0, x1, x2, x3, x4, x5, x6, x7, x8, x9, x10, x11, .pointer none] 189)
      simpa using this
  · have hgl := hall j (by omega)
    have e12 : (rows j ++ [Value.pointer none]).toArray[12]? = some (.pointer none) := by simp [hgl]
    refine (add_more w gc gl x0 x1 x2 x3 x4 x5 x6 x7 x8 x9 x10 x11 hlt h2 (cell_of hg rfl) (froz_of hg) (cell_of hl e12) (froz_of hl)).mono ?_
    rintro e w' ⟨rfl, rfl⟩
    refine ⟨rfl, (((Below.refl gc w).setCell (Nat.le_of_lt h1) _).setCell (Nat.le_refl _) _).alloc (by simp; omega) _ |>.alloc (by simp; omega) _, by simp; omega, p0, _, ?_, .inr ⟨w.heap.size + 1, j + 1, rfl, rfl, by omega, by simp, ?_, ?_⟩⟩
    · rw [Below.heap_alloc _ _ _ (by simp; omega), Below.heap_alloc _ _ _ (by simp; omega), heap_setCell_same _ _ _ _ _ _ ((heap_setCell_other _ _ _ _ (by simp; omega)).trans hg)]
      rfl
    · rw [List.range_succ, List.map_append]
      refine Seg.snoc (g := gl) (by omega) (by omega) ?_ (hs.mono (fun g h3 h4 => ?_) (by omega))
      · rw [Below.heap_alloc _ _ _ (by simp; omega), Below.heap_alloc _ _ _ (by simp; omega), heap_setCell_other _ _ _ _ (by simp; omega), heap_setCell_same _ _ _ _ _ _ hl]
        simp [hgl]
      · rw [Below.heap_alloc _ _ _ (by simp; omega), Below.heap_alloc _ _ _ (by simp; omega), heap_setCell_other _ _ _ _ (by simp; omega), heap_setCell_other _ _ _ _ (by simp; omega)]
    · rw [hr]
      have := alloc_new (((w.setCell ⟨gl, 12, none⟩ (.pointer (some ⟨w.heap.size + 1, 0, none⟩))).setCell ⟨gc, 1, none⟩ (.pointer (some ⟨w.heap.size + 1, 0, none⟩))).alloc (.cells #[x0, x1, x2, x3, x4, x5, x6, x7, x8, x9, x10, x11] 96)) (.cells #[x0, x1, x2, x3, x4, x5, x6, x7, x8, x9, x10, x11, .pointer none] 189)
      simpa using this
def Inv (w0 : World) (rows : Nat → List Value) (k : Nat) (w : World) : Prop := Below w0.heap.size w0 w ∧ Chn w w0.heap.size 186 189 rows k
def Fin (w0 : World) (rows : Nat → List Value) (n : Nat) (e : Ending) (w' : World) : Prop := e = .returned (.pointer (some ⟨w0.heap.size, 0, none⟩)) ∧ Inv w0 rows n w'
theorem chainOf_w (w0 : World) (A : Option Addr) (n c : Nat) (rows : Nat → List Value) (hn : n ≤ maxLen)
   (hr : ∀ i, i < n → PastRow (rows i) ∧ ∃ g o, A = some ⟨g, o, none⟩ ∧ g < w0.heap.size ∧ ∀ j u, (rows i)[j]? = some u → w0.cell? ⟨g, o + i * 12 + j, none⟩ = some u) :
    Calls Try.prog 136 #[.slice A n c] w0 (Fin w0 rows n) := by
  unfold maxLen at hn
  have HR := Lib.hid hr
  clear hr
  go_enter Try.func136, Try.ntmps136
  go_wp2
  go_loopw [10] (fun i w => ∃ k : Nat, k ≤ n ∧ i = .int .i64 k ∧ Inv w0 rows k w) (fun i _ => n - (intOf i).toNat)
  case atStart =>
    refine ⟨0, Nat.zero_le _, rfl, (Below.refl _ _).alloc (Nat.le_refl _) _, ?_⟩
    exact ⟨by simp, none, none, alloc_new _ _, .inl ⟨rfl, rfl, rfl⟩⟩
  case round =>
    obtain ⟨k, hk, rfl, hI⟩ := hrel
    by_cases hlt : k < n
    · obtain ⟨hl, g, o, rfl, hg, hc⟩ := HR.out k hlt
      obtain ⟨n0, n1, n2, n3, n4, n5, n6, n7, n8, n9, p1, l1, c1, p2, l2, c2, he⟩ := hl
      have hB := hI.1
      have cf : ∀ j u, (rows k)[j]? = some u → wr.cell? ⟨g, o + k * 12 + j, none⟩ = some u := fun j u h => (hB.cell (p := ⟨g, o + k * 12 + j, none⟩) hg).trans (hc j u h)
      rw [he] at cf
      have c0 : wr.cell? ⟨g, o + k * 12, none⟩ = some (.int .i64 n0) := cf 0 _ rfl
      have c1 := cf 1 _ rfl
      have c2 := cf 2 _ rfl
      have c3 := cf 3 _ rfl
      have c4 := cf 4 _ rfl
      have c5 := cf 5 _ rfl
      have c6 := cf 6 _ rfl
      have c7 := cf 7 _ rfl
      have c8 := cf 8 _ rfl
      have c9 := cf 9 _ rfl
      have c10 := cf 10 _ rfl
      have c11 := cf 11 _ rfl
      have HI := Lib.hid hI
      have HB := Lib.hid hB
      have HE := Lib.hid he
      have HC := Lib.hid hc
      clear hI hB cf he hc
      have hall : ∀ i, i ≤ k → (rows i).length = 12 := fun i hi => by
        obtain ⟨_, _, _, _, _, _, _, _, _, _, _, _, _, _, _, _, h⟩ := (HR.out i (by omega)).1
        rw [h]; rfl
      have HA := Lib.hid hall
      clear hall
      go_wp2_with fail
      refine (add_step _ _ rows k _ _ _ _ _ _ _ _ _ _ _ _ HE.out HA.out (HI.out.2.alloc _)).mono ?_
      rintro e w' ⟨rfl, hB', hC'⟩
      have HB' := Lib.hid hB'
      have HC' := Lib.hid hC'
      clear hB' hC'
      go_wp2
      go_roundw
      case rel => exact ⟨k + 1, by omega, by go_num, (HB.out.alloc (HB.out.size) _).trans HB'.out, HC'.out⟩
      case measure => simp [intOf]; omega
    · obtain rfl : k = n := by omega
      have HI := Lib.hid hI
      clear hI
      go_wp2
      go_ret
      exact ⟨rfl, HI.out⟩
open Go.Sx
abbrev i1 : Ty := .int .i64
abbrev tEv : Ty := .pair i1 (.pair i1 (.pair i1 (.pair i1 (.pair i1 (.pair i1 i1)))))
abbrev tSt : Ty := .pair i1 (.pair i1 i1)
abbrev tPa (e1 : Nat) (u1 : Ty) (e2 : Nat) (u2 : Ty) : Ty := .pair tEv (.pair tSt (.pair (.sl e1 u1) (.sl e2 u2)))
theorem past_row {w : World} {Fz : Nat → Prop} {e1 e2 : Nat} {u1 u2 : Ty} {x : el (tPa e1 u1 e2 u2)} {row : List Value} (h : KI w Fz (tPa e1 u1 e2 u2) x row) : PastRow row := by
  obtain ⟨c1, c2, rfl, ⟨d1, d2, rfl, rfl, d3, d4, rfl, rfl, d5, d6, rfl, rfl, d7, d8, rfl, rfl, d9, d10, rfl, rfl, d11, d12, rfl, rfl, rfl⟩, f1, f2, rfl, ⟨g1, g2, rfl, rfl, g3, g4, rfl, rfl, rfl⟩, k1, k2, rfl, ⟨A, c, rfl, _⟩, ⟨B, b, rfl, _⟩⟩ := h
  exact ⟨_, _, _, _, _, _, _, _, _, _, _, _, _, _, _, _, rfl⟩
theorem seg_lk {w : World} {lo hi : Nat} {Fz : Nat → Prop} {α : Type} {n : Nat} {K : α → List Value → Prop} (hf : ∀ b, lo ≤ b → b < hi → Fz b) {q : Option Addr} {ys : List α} (hq : LkR w Fz n K ys q) : ∀ {xs : List α} {rs : List (List Value)} {p : Option Addr}, All2 (fun x (r : List Value) => K x r ∧ r.length = n) xs rs → Seg w lo hi 189 rs p q → LkR w Fz n K (xs ++ ys) p
  | [], [], p, _, hs => by obtain rfl := hs; exact hq
  | x :: xs, r :: rs, p, ⟨⟨hk, hl⟩, ha⟩, hs => by
    obtain ⟨g, nx, rfl, h1, h2, hg, hs⟩ := hs
    exact ⟨g, 0, r, nx, rfl, hf g h1 h2, hl, fun j u hj => by rw [Nat.zero_add]; exact cell_of hg (by simpa using hj), hk, seg_lk hf hq ha hs⟩
theorem all2_range {α : Type} {K : α → List Value → Prop} (rows : Nat → List Value) : ∀ (xs : List α) (j : Nat), (∀ i (hi : i < xs.length), K xs[i] (rows (j + i))) → All2 K xs ((List.range' j xs.length).map rows)
  | [], j, _ => trivial
  | x :: xs, j, h => by
    refine ⟨h 0 (by simp), all2_range rows xs (j + 1) fun i hi => ?_⟩
    have := h (i + 1) (by simpa using hi)
    rwa [show j + (i + 1) = j + 1 + i from by omega] at this
theorem chain_done {E : Env} (hP : E.P = Try.prog) {e1 e2 : Nat} {u1 u2 : Ty} (hres : resTys E 136 = some [.fp (.pair (.lk 189 (tPa e1 u1 e2 u2)) .any)]) : SlDoneB E 136 96 (tPa e1 u1 e2 u2) (.fp (.pair (.lk 189 (tPa e1 u1 e2 u2)) .any)) fun xs => (xs, ()) := by
  intro xs hmax w0 ρ Fz0 v R hk ts hts
  rw [hres] at hts
  cases hts
  obtain ⟨A, c, hv, hc, hel⟩ := hk
  obtain rfl : v = .slice A xs.length c := by simpa using hv
  have hrow : ∀ i, ∃ row : List Value, i < xs.length → ∃ (hi : i < xs.length) (g o : Nat), A = some ⟨g, o, none⟩ ∧ Fz0 g ∧ (∀ j u, row[j]? = some u → w0.cell? ⟨g, o + i * sz (tPa e1 u1 e2 u2) + j, none⟩ = some u) ∧ KI w0 Fz0 (tPa e1 u1 e2 u2) xs[i] row := fun i => by
    by_cases hi : i < xs.length
    · obtain ⟨g, o, row, h⟩ := hel i hi
      exact ⟨row, fun _ => ⟨hi, g, o, h⟩⟩
    · exact ⟨[], fun h => absurd h hi⟩
  let rows : Nat → List Value := fun i => Classical.choose (hrow i)
  have hrows : ∀ i, i < xs.length → ∃ (hi : i < xs.length) (g o : Nat), A = some ⟨g, o, none⟩ ∧ Fz0 g ∧ (∀ j u, (rows i)[j]? = some u → w0.cell? ⟨g, o + i * 12 + j, none⟩ = some u) ∧ KI w0 Fz0 (tPa e1 u1 e2 u2) xs[i] (rows i) := fun i hi => Classical.choose_spec (hrow i) hi
  have hmax : xs.length ≤ maxLen := by unfold maxLen; omega
  · have hw := chainOf_w w0 A xs.length c rows hmax fun i hi => by
      obtain ⟨_, g, o, h1, h2, h3, h4⟩ := hrows i hi
      exact ⟨past_row h4, g, o, h1, R.fzlt g h2, h3⟩
    rw [hP]
    refine hw.mono ?_
    rintro e w ⟨rfl, hB, hlt, p0, pl, hg, hcase⟩
    refine ⟨_, rfl, back_read R.fzlt rfl hB ⟨⟨w0.heap.size, 0, [.pointer p0, .pointer pl], rfl, .inr ⟨Nat.le_refl _, hlt⟩, fun j u hj => by rw [Nat.zero_add]; exact cell_of hg (by simpa using hj), [_], [_], rfl, ⟨p0, rfl, ?_⟩, _, rfl, rfl⟩, rfl⟩⟩
    have hK : ∀ i (hi : i < xs.length), KI w (fun b => Fz0 b ∨ (w0.heap.size ≤ b ∧ b < w.heap.size)) (tPa e1 u1 e2 u2) xs[i] (rows i) := fun i hi => by
      obtain ⟨_, _, _, _, _, _, h4⟩ := hrows i hi
      exact KI_mono (Fz := Fz0) (fun b hb => .inl hb) (fun b hb => hB.block b (R.fzlt b hb)) h4
    rcases hcase with ⟨h0, rfl, rfl⟩ | ⟨gl, j, hj, rfl, h1, h2, hs, hl⟩
    · obtain rfl : xs = [] := List.eq_nil_of_length_eq_zero h0
      exact rfl
    · have hxs : xs = xs.take j ++ [xs[j]'(by omega)] := by
        rw [List.take_append_getElem, List.take_of_length_le (by omega)]
      have hlj := KI_len (hK j (by omega))
      have := seg_lk (Fz := fun b => Fz0 b ∨ (w0.heap.size ≤ b ∧ b < w.heap.size)) (α := el (tPa e1 u1 e2 u2)) (n := 12) (K := fun x row => KI w (fun b => Fz0 b ∨ (w0.heap.size ≤ b ∧ b < w.heap.size)) (tPa e1 u1 e2 u2) x row) (ys := [xs[j]'(by omega)]) (q := some ⟨gl, 0, none⟩) (fun b hb1 hb2 => .inr ⟨by omega, by omega⟩)
        ⟨gl, 0, rows j, none, rfl, .inr ⟨by omega, h2⟩, hlj, fun i u hi => by rw [Nat.zero_add]; exact cell_of hl (by simpa using hi), hK j (by omega), rfl⟩ (xs := xs.take j) (p := p0) (rs := (List.range j).map rows) ?_ hs
      · rw [hxs]; exact this
      · have hlt : (xs.take j).length = j := by rw [List.length_take]; omega
        have := all2_range (K := fun x (r : List Value) => KI w (fun b => Fz0 b ∨ (w0.heap.size ≤ b ∧ b < w.heap.size)) (tPa e1 u1 e2 u2) x r ∧ r.length = 12) rows (xs.take j) 0 fun i hi => by
          rw [List.getElem_take, Nat.zero_add]
          exact ⟨hK i (by omega), KI_len (hK i (by omega))⟩
        rw [hlt, ← List.range_eq_range'] at this
        exact this
end Go.Proofs.YtjgpacfhokpfdaaChain
