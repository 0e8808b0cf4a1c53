/- A save writes the head, the numbers by eights, the head: the walks of slices.Chunk, of the iterator and of slices.AppendSeq; what is answered. No condition. -/
import Derived.RangeFuncNested
import Derived.RangeFuncBound
import Derived.RangeFuncCalls
import Derived.RangeFuncLeaves
import Derived.Shelf.Abstract
import Derived.Shelf.RegionOpen
import Derived.WalkKit
import Derived.OwnWalkIn
import Derived.TacticsInMore
import Derived.LoopNIn
import Derived.LoopIn
import Derived.Maps.AppendAt
import Derived.Lib.Hide
import Derived.Test.YtiabhdebjajgiaaProg
import Derived.Test.YtiabhdebjajgiaaSx28
import Derived.Lib.SliceRun
import Derived.Test.YtiabhdebjajgiaaSx24
import Derived.Test.YtiabhdebjajgiaaPl
set_option linter.unusedVariables false
namespace Go.Proofs.YtiabhdebjajgiaaSave
open Go Go.RowKit Go.Shelf Go.Sx
attribute [local go_sem] Oper.semAt_some
/-- A chunk of the numbers. -/
def chV (b o len i : Nat) : Value := .slice (some ⟨b, o + 8 * i, none⟩) (min 8 (len - 8 * i)) (min 8 (len - 8 * i))
abbrev ChI (len : Nat) : Type := { i : Nat // i < nCh len }
def allCh (len : Nat) : List (ChI len) := (List.range (nCh len)).attach.map fun i => ⟨i.1, List.mem_range.1 i.2⟩
theorem allCh_len (len : Nat) : (allCh len).length = nCh len := by simp [allCh]
theorem allCh_all (len : Nat) : (allCh len).take (nCh len) = allCh len := List.take_of_length_le (by rw [allCh_len]; exact Nat.le_refl _)
theorem allCh_take (len k : Nat) (h : k < nCh len) : (allCh len).take (k + 1) = (allCh len).take k ++ [⟨k, h⟩] := by
  rw [List.take_succ_eq_append_getElem (by rw [allCh_len]; exact h)]
  congr 1
  simp [allCh]
set_option maxRecDepth 100000 in
set_option maxHeartbeats 2000000 in
theorem chunk1_in (F : Fence) (n : Nat) (h86 : F.fn 86) (hro : F.round = none) (hn : 1 ≤ n) (l c0 c1 b o len cap : Nat) (A : Option Addr) (hA : A = some ⟨b, o, none⟩ ∨ len = 0) (hlc : len ≤ cap) (hl : len ≤ 1048576) (J Jx : List (ChI len) → World → Prop) (Kp : World → World → Prop)
    (hK0 : ∀ W W', Kp W W' → Boxed W c0 38 (.slice A len cap) → Boxed W' c0 38 (.slice A len cap))
    (hK1 : ∀ W W', Kp W W' → Boxed W c1 3 (.int .i64 8) → Boxed W' c1 3 (.int .i64 8)) (hKd : ∀ pre W, J pre W → J pre W.drew)
    (hY : ∀ pre (x : ChI len) W, J pre W → pre.length < nCh len → YieldAt F (n - 1) Try.prog l #[chV b o len x.1] W fun e W' =>
      (e = .returned (.bool true) ∧ J (pre ++ [x]) W' ∧ Kp W W') ∨ (e = .returned (.bool false) ∧ Jx (pre ++ [x]) W'))
    (W : World) (h0b : Boxed W c0 38 (.slice A len cap)) (h1b : Boxed W c1 3 (.int .i64 8)) (h0 : J [] W) :
    CallsIn F n Try.prog 86 #[.func (.yield l) #[] #[], .pointer (some ⟨c0, 0, none⟩), .pointer (some ⟨c1, 0, none⟩)] W fun e W' => (∃ v, e = .returned v) ∧
      ((∃ ys, ys = allCh len ∧ J ys W') ∨ (∃ pre, True ∧ Jx pre W')) := by
  have h0c := h0b.cell
  have h1c := h1b.cell
  have mixed : Try.prog.follows .mixedOrders = true := by kernel_rfl
  refine callsIn_of_wp Try.func86 rfl h86 ?_ hro
  simp only [Try.ntmps86, List.size_toArray, List.length_cons, List.length_nil, Nat.reduceAdd, Nat.reduceSub, Array.replicate_succ, Array.replicate_zero, List.push_toArray, List.append_toArray, List.nil_append, List.cons_append]
  gi_wp2
  gi_loopw [4] (fun i wr => ∃ (k : Nat) (pre : List (ChI len)), i = .int .i64 ((8 * k : Nat) : Int) ∧ k ≤ nCh len ∧ pre = (allCh len).take k ∧ J pre wr ∧ Boxed wr c0 38 (.slice A len cap) ∧ Boxed wr c1 3 (.int .i64 8))
    (fun i _ => len + 16 - (intOf i).toNat)
  case atStart => exact ⟨0, [], rfl, Nat.zero_le _, rfl, h0, h0b, h1b⟩
  case round =>
    obtain ⟨k, pre, rfl, hk, hpre, hJ, hb0, hb1⟩ := hrel
    have hc0 := hb0.cell
    have hc1 := hb1.cell
    by_cases hlt : 8 * k < len
    · obtain rfl : A = some ⟨b, o, none⟩ := hA.resolve_right (by omega)
      have hkN : k < nCh len := by unfold nCh; omega
      have hpl : pre.length = k := by rw [hpre, List.length_take, allCh_len]; omega
      have hnext : (allCh len).take (k + 1) = pre ++ [⟨k, hkN⟩] := by rw [hpre, allCh_take _ _ hkN]
      obtain ⟨fn, tmps, assign, body, hy, hR⟩ := hY pre ⟨k, hkN⟩ wr.drew (hKd _ _ hJ) (by omega)
      have H1 := Lib.hid hnext
      have H2 := Lib.hid hpre
      have H3 := Lib.hid hpl
      have H4 := Lib.hid hkN
      clear hnext hpre hpl
      by_cases h8 : 8 ≤ len - 8 * k
      · have e : chV b o len k = .slice (some ⟨b, o + 8 * k, none⟩) 8 8 := by unfold chV; rw [Nat.min_eq_left h8]
        dsimp only at hy
        rw [e] at hy
        gi_wp2
        gi_region_with_o (fail)
        all_goals gi_wp2
        all_goals (try go_bits)
        all_goals
          refine hR.mono ?_
          rintro e W3 (⟨rfl, hJ3, hk3⟩ | ⟨rfl, hJx3⟩)
          · have q0 := hK0 _ _ hk3 hb0
            have q1 := hK1 _ _ hk3 hb1
            have r0 := q0.cell
            have r1 := q1.cell
            gi_wp2
            go_roundw
            case rel => exact ⟨k + 1, _, by congr 1 <;> omega, H4.out, H1.out.symm, hJ3, q0, q1⟩
            case measure => simp [intOf]; omega
          · gi_wp2
            refine bodyPost_ret (results_none rfl _ _ _) rfl ?_
            exact ⟨⟨_, rfl⟩, .inr ⟨_, trivial, hJx3⟩⟩
      · have e : chV b o len k = .slice (some ⟨b, o + 8 * k, none⟩) (len - 8 * k) (len - 8 * k) := by unfold chV; rw [Nat.min_eq_right (by omega)]
        dsimp only at hy
        rw [e] at hy
        gi_wp2
        gi_region_with_o (fail)
        all_goals gi_wp2
        all_goals (try go_bits)
        all_goals
          refine hR.mono ?_
          rintro e W3 (⟨rfl, hJ3, hk3⟩ | ⟨rfl, hJx3⟩)
          · have q0 := hK0 _ _ hk3 hb0
            have q1 := hK1 _ _ hk3 hb1
            have r0 := q0.cell
            have r1 := q1.cell
            gi_wp2
            go_roundw
            case rel => exact ⟨k + 1, _, by congr 1 <;> omega, H4.out, H1.out.symm, hJ3, q0, q1⟩
            case measure => simp [intOf]; omega
          · gi_wp2
            refine bodyPost_ret (results_none rfl _ _ _) rfl ?_
            exact ⟨⟨_, rfl⟩, .inr ⟨_, trivial, hJx3⟩⟩
    · have hend : k = nCh len := by unfold nCh at hk ⊢; omega
      gi_wp2
      go_end0
      exact ⟨⟨_, rfl⟩, .inl ⟨pre, by rw [hpre, hend, allCh_all], hJ⟩⟩
open Go Go.RowKit Go.Shelf Go.Sx
attribute [local go_sem] Oper.semAt_some
theorem room_none {F : Fence} (hd : F.depth = none) (k : Nat) : F.room k := fun d h => by rw [hd] at h; cases h
theorem yield_any {F : Fence} (hd : F.depth = none) {m : Nat} (m' : Nat) {P : Program} {l : Nat} {args : Array Value} {W : World} {R : Ending → World → Prop} (h : YieldAt F m P l args W R) : YieldAt F m' P l args W R := by
  obtain ⟨fn, tmps, assign, body, hy, hR⟩ := h
  exact ⟨fn, tmps, assign, body, hy, hR.1, fun c cs _ => hR.2 c cs (room_none hd _)⟩
theorem yield_in {F : Fence} {m : Nat} {P : Program} {l : Nat} {args : Array Value} {W : World} {R : Ending → World → Prop} (li : Nat) (h : YieldAt F m P l args W R) : YieldAt (F.inRound li) m P l args W R := h
/-- A step that is written, and the numbers that its slice holds. -/
structure El where
  sec : Bool
  i : Int
  num : Int
  cnt : Int
  sl : Value
  ints : List Int
def El.enc (x : El) : Value := .agg #[.bool x.sec, .int .i64 x.i, .int .i64 x.num, .int .i64 x.cnt, x.sl]
def El.own (base : Nat) (W : World) (x : El) : Prop := W.ownsRow base 3 1 x.sl x.ints.length (x.ints.map (Value.int .i64))
def El.key (x : El) : StepF := (x.sec, x.i, x.num, x.cnt, x.ints)
def Apart (pre : List El) (x : El) : Prop := ∀ y ∈ pre, ∀ g, x.sl.ownBlock = some g → y.sl.ownBlock ≠ some g
/-- What a round keeps. -/
structure KR (n0 B : Nat) (W W' : World) : Prop where
  size : W.heap.size ≤ W'.heap.size
  below : ∀ k, k < n0 → W'.heap[k]? = W.heap[k]?
  cells : ∀ (k : Nat) (cs : Array Value) (t : TypeId), W.heap[k]? = some (.cells cs t (0, 0)) → t ≠ 59 → t ≠ 43 → W'.heap[k]? = some (.cells cs t (0, 0))
  rest : ∀ (k : Nat) (o : Obj), B ≤ k → W.heap[k]? = some o → o.isCells = false → W'.heap[k]? = some o
theorem KR.box {n0 B : Nat} {W W' : World} (h : KR n0 B W W') {k t : Nat} {v : Value} (hb : Boxed W k t v) (h1 : t ≠ 59) (h2 : t ≠ 43) : Boxed W' k t v := h.cells k _ t hb h1 h2
/-- What the caller keeps between two rounds abides the iterator's own steps. -/
def AbidesX (B : Nat) (J : List El → World → Prop) : Prop :=
  ∀ s W W' row, J s W → W.grownBy W' row → (∀ r, row = some r → B ≤ r ∧ ∃ o : Obj, W.heap[r]? = some o ∧ (∀ cur, o ≠ .cells cur 59 (0, 0)) ∧ (o.isCells = true → ∀ y ∈ s, y.sl.ownBlock ≠ some r)) → J s W'
theorem AbidesX.keep {B : Nat} {J : List El → World → Prop} (h : AbidesX B J) {s : List El} {W W' : World} (hs : J s W) (hg : W.grownBy W' none) : J s W' := h s W W' _ hs hg (fun r e => by cases e)
theorem AbidesX.alloc {B : Nat} {J : List El → World → Prop} (h : AbidesX B J) {s : List El} {W : World} (o : Obj) (hs : J s W) : J s (W.alloc o) := h.keep hs (World.grownBy_alloc W o none)
theorem own_kept {base : Nat} {W W' : World} {x : El} (h : x.own base W) (hk : ∀ k cs, x.sl.ownBlock = some k → W.heap[k]? = some (.cells cs 3 (0, 0)) → W'.heap[k]? = some (.cells cs 3 (0, 0))) : x.own base W' := by
  unfold El.own at h ⊢
  refine ⟨h.1, ?_⟩
  rcases h.2 with h2 | ⟨g, cap, cur, h1, h2, h3, h4⟩
  · exact .inl h2
  · exact .inr ⟨g, cap, cur, h1, h2, hk g cur (by rw [h1]; rfl) h3, h4⟩
theorem own_blk {base : Nat} {W : World} {x : El} (h : x.own base W) {g : Nat} (hg : x.sl.ownBlock = some g) : base ≤ g ∧ g < W.heap.size ∧ ∃ cur, W.heap[g]? = some (.cells cur 3 (0, 0)) := by
  rcases h.2 with ⟨h1, _⟩ | ⟨g', cap, cur, h1, h2, h3, _⟩
  · rw [h1] at hg; cases hg
  · rw [h1] at hg; cases hg
    exact ⟨h2, (Array.getElem?_eq_some_iff.1 h3).1, cur, h3⟩
theorem own_base {base base' : Nat} {W : World} {x : El} (hb : base' ≤ base) (h : x.own base W) : x.own base' W := by
  unfold El.own at h ⊢
  refine ⟨h.1, ?_⟩
  rcases h.2 with h2 | ⟨g, cap, cur, h1, h2, h3, h4⟩
  · exact .inl h2
  · exact .inr ⟨g, cap, cur, h1, Nat.le_trans hb h2, h3, h4⟩
theorem kf_kr {n0 B B' : Nat} {W W' : World} (h : KR n0 B W W') (hB : B ≤ B') : KeepsFrom B' W W' := ⟨h.size, fun k o hk ho hc => h.rest k o (Nat.le_trans hB hk) ho hc⟩
theorem own_nil (base : Nat) (W : World) (s : Bool) (i num cnt : Int) : (El.mk s i num cnt (.slice none 0 0) []).own base W := World.ownsRow_nil _ _ _ _
/-! ### slices.Chunk -/
theorem chunk_in (n : Nat) (A : Option Addr) (len cap : Nat) (w : World) : CallsIn Fence.wide n Try.prog 80 #[.slice A len cap, .int .i64 8] w fun e w' =>
    e = .returned (.func (.func 86) #[] #[.pointer (some ⟨w.heap.size, 0, none⟩), .pointer (some ⟨w.heap.size + 1, 0, none⟩)]) ∧ w' = (w.alloc (.cells #[.slice A len cap] 38)).alloc (.cells #[.int .i64 8] 3) := by
  refine callsIn_of_wp Try.func80 rfl trivial ?_ rfl
  simp only [Try.ntmps80, List.size_toArray, List.length_cons, List.length_nil, Nat.reduceAdd, Nat.reduceSub, Array.replicate_succ, Array.replicate_zero, List.push_toArray, List.append_toArray, List.nil_append, List.cons_append]
  gi_wp2
  go_ret
  exact ⟨rfl, rfl⟩
/-- What the rounds of the chunks keep for the iterator. -/
def KpC (c0 c1 : Nat) (W W' : World) : Prop := (∀ v, Boxed W c0 38 v → Boxed W' c0 38 v) ∧ (∀ v, Boxed W c1 3 v → Boxed W' c1 3 v)
theorem KpC.trans {c0 c1 : Nat} {X Y Z : World} (h : KpC c0 c1 X Y) (k : KpC c0 c1 Y Z) : KpC c0 c1 X Z := ⟨fun v b => k.1 v (h.1 v b), fun v b => k.2 v (h.2 v b)⟩
theorem KpC.putObj {c0 c1 : Nat} (W : World) (l : Nat) (o o' : Obj) (hl : W.heap[l]? = some o) (ho : o.isCells = false) : KpC c0 c1 W (W.putObj l o') :=
  ⟨fun v b => (World.putObj_heap_other (fun e => by subst e; rw [show W.heap[c0]? = _ from b] at hl; cases hl; cases ho)).trans b, fun v b => (World.putObj_heap_other (fun e => by subst e; rw [show W.heap[c1]? = _ from b] at hl; cases hl; cases ho)).trans b⟩
theorem chunk_stops (n : Nat) (hn : 1 ≤ n) (c0 c1 b o len cap : Nat) (A : Option Addr) (hA : A = some ⟨b, o, none⟩ ∨ len = 0) (hlc : len ≤ cap) (hl : len ≤ 1048576) (w : World)
    (h0 : Boxed w c0 38 (.slice A len cap)) (h1 : Boxed w c1 3 (.int .i64 8)) :
    SeqStopsK Fence.wide n Try.prog 86 #[.pointer (some ⟨c0, 0, none⟩), .pointer (some ⟨c1, 0, none⟩)] (fun x : ChI len => #[chV b o len x.1]) (KpC c0 c1) (fun ys => ys = allCh len) (fun _ => True) (nCh len) w := fun l J Jx W hW hJ hJx hY hs =>
  chunk1_in Fence.wide n trivial rfl hn l c0 c1 b o len cap A hA hlc hl J Jx (KpC c0 c1) (fun W W' k => k.1 _) (fun W W' k => k.2 _) (fun pre X hx => hJ pre X X.drew none hx ⟨rfl, rfl, rfl, Nat.le_refl _, fun _ _ _ => rfl⟩ (fun r e => by cases e)) hY W
    ((hW.block c0 h0.lt).trans h0) ((hW.block c1 h1.lt).trans h1) hs
theorem cell_lt {w : World} {a : Addr} {v : Value} (h : w.cell? a = some v) : a.block < w.heap.size := by
  unfold World.cell? at h
  cases ho : w.heap[a.block]? with
  | none => simp [ho] at h
  | some x => exact (Array.getElem?_eq_some_iff.1 ho).1
theorem cell_al {w : World} {o : Obj} {a : Addr} {v : Value} (h : w.cell? a = some v) : (w.alloc o).cell? a = some v := (World.cell?_of_block (w := w) (Below.heap_alloc w o _ (cell_lt h))).trans h
theorem info3 : (Try.prog.info? 3).map (fun i => (i.zero, i.size, i.bytes)) = some (some (.int .i64 0), 1, 8) := by kernel_rfl
theorem under38 : Try.prog.underlying 38 = some (.slice 3) := by kernel_rfl
set_option maxRecDepth 100000 in
set_option maxHeartbeats 2000000 in
theorem clone_in (n : Nat) (a : Addr) (k c : Nat) (zs : List Int) (hz : zs.length = k) (hk : k ≤ 1048576) (w : World) (hc : ∀ j u, (zs.map (Value.int .i64))[j]? = some u → w.cell? (a.add j) = some u) :
    CallsIn Fence.wide n Try.prog 52 #[.slice (some a) k c] w fun e w' => ∃ v, e = .returned v ∧ w'.ownsRow w.heap.size 3 1 v k (zs.map (Value.int .i64)) ∧ w.grownBy w' none := by
  obtain ⟨i0, hi, hz0, hz1, hz2⟩ := info_parts info3
  have hnil := fun (w : World) => Lib.run_eql_slice_nil (P := Try.prog) w 38 3 (some a) k c 0 0 under38
  refine callsIn_of_wp Try.func52 rfl trivial ?_ rfl
  simp only [Try.ntmps52, List.size_toArray, List.length_cons, List.length_nil, Nat.reduceAdd, Nat.reduceSub, Array.replicate_succ, Array.replicate_zero, List.push_toArray, List.append_toArray, List.nil_append, List.cons_append]
  gi_wp2_with (gi_at_builtin; go_loud (refine wpListIn_append_own _ rfl _ _ 38 rfl w.heap.size 3 i0 (.int .i64 0) 1 8 under38 hi hz0 hz1 hz2 rfl (by decide) _ 0 [] rfl ⟨rfl, .inr ⟨w.heap.size, 0, #[], rfl, Nat.le_refl _, World.alloc_heap_new _ _, Nat.le_refl _, Nat.zero_le _, rfl, rfl⟩⟩ a k c (zs.map (Value.int .i64)) rfl (by simp [hz]) (fun j u hj => cell_al (hc j u hj)) (by simp [Value.oneCell']) (by unfold maxLen; omega) (by omega) (by simp) ?_; intro v' w1 hown' hgrow hnil2))
  have hg : w.grownBy w1 none := ⟨hgrow.os, hgrow.tape, hgrow.output, Nat.le_trans (by simp) hgrow.size, fun j hj _ => (hgrow.block j (by simp; omega) (fun e => by
    have e' : some j = some w.heap.size := e
    have : j = w.heap.size := by simpa using e'
    omega)).trans (Below.heap_alloc _ _ _ hj)⟩
  go_ret
  exact ⟨_, rfl, by simpa using hown', hg⟩
open Go Go.RowKit Go.Shelf Go.Sx
section
variable {F : Fence} {n : Nat} {P : Program} {ops : Array Oper} {Q : Exit → Act → World → Prop} {md : Region.Mode}
theorem ready_false {listed : Array Bool} {i : Nat} (h : i ∈ Region.ready md ops listed) (hs : listed.size = ops.size) : i < listed.size ∧ listed[i]? = some false := by
  unfold Region.ready at h
  obtain ⟨h1, h2⟩ := List.mem_filter.1 h
  have hlt : i < listed.size := by rw [hs]; exact List.mem_range.1 h1
  refine ⟨hlt, ?_⟩
  rw [Bool.and_eq_true] at h2
  have h3 := h2.1
  rw [Array.getD_eq_getD_getElem?, Array.getElem?_eq_getElem hlt] at h3
  rw [Array.getElem?_eq_getElem hlt]
  cases hb : listed[i] with
  | false => rfl
  | true => rw [hb] at h3; cases h3
theorem count_set {l : List Bool} {i : Nat} (h : l[i]? = some false) : (l.set i true).count false + 1 = l.count false := by
  induction l generalizing i with
  | nil => cases h
  | cons b l ih =>
    cases i with
    | zero =>
      obtain rfl : b = false := by simpa using h
      simp
    | succ i =>
      have := ih (i := i) (by simpa using h)
      simp only [List.set_cons_succ, List.count_cons]
      omega
/-- A region whose order is drawn: what holds whatever has been done, in whatever order. -/
theorem wpAnyIn_inv (Inv : Array Bool → Act → World → Prop)
    (hstep : ∀ (listed : Array Bool) (a : Act) (w : World) (i : Nat), listed.size = ops.size → Inv listed a w → i ∈ Region.ready md ops listed → wpOpIn F n P ops Q i (Inv (listed.setIfInBounds i true)) a w)
    (hdone : ∀ (listed : Array Bool) (a : Act) (w : World), listed.size = ops.size → Inv listed a w → Region.ready md ops listed = [] → Q .normal a w) :
    ∀ (fuel : Nat) (listed : Array Bool) (a : Act) (w : World), listed.size = ops.size → listed.toList.count false ≤ fuel → Inv listed a w → wpAnyIn F n P md ops Q fuel listed a w
  | 0, listed, a, w, hs, hc, hi => by
    have hr : Region.ready md ops listed = [] := by
      cases hr : Region.ready md ops listed with
      | nil => rfl
      | cons i r =>
        have h := ready_false (md := md) (ops := ops) (listed := listed) (i := i) (by rw [hr]; exact List.mem_cons_self ..) hs
        have := count_set (l := listed.toList) (i := i) (by simpa using h.2)
        omega
    exact ⟨hr, hdone listed a w hs hi hr⟩
  | fuel + 1, listed, a, w, hs, hc, hi => ⟨hdone listed a w hs hi, fun i hr => by
      refine wpOpIn_mono (fun a' w' h' => wpAnyIn_inv Inv hstep hdone fuel _ a' w' (by simpa using hs) ?_ h') (hstep listed a w i hs hi hr)
      have h := ready_false hr hs
      have := count_set (l := listed.toList) (i := i) (by simpa using h.2)
      have e : (listed.setIfInBounds i true).toList = listed.toList.set i true := by simp
      rw [e]; omega⟩
end
open Go Go.RowKit Go.Shelf Go.Sx
attribute [local go_sem] Oper.semAt_some
theorem keysTo_snoc (sec : Bool) (ns : List Int) (l : List Nat) (c : Nat) : keysTo sec ns (l ++ [c]) = keysTo sec ns l ++ [chKey sec ns l.length c] := by simp [keysTo, List.mapIdx_concat]
theorem allCh_map (len : Nat) : (allCh len).map (·.1) = List.range (nCh len) := by simp [allCh, List.map_attach_eq_pmap]
/-- What stands between two rounds over the chunks. -/
structure InI (J : List El → World → Prop) (l k1 k2 k3 sB yB c1 : Nat) (sec : Bool) (num : Int) (A : Option Addr) (len cap b o : Nat) (ns : List Int) (pre : List (ChI len)) (W : World) : Prop where
  els : ∃ xs, J xs W ∧ xs.map El.key = keysTo sec ns (pre.map (·.1)) ∧ (∀ y ∈ xs, ∀ g, y.sl.ownBlock = some g → c1 < g ∧ g < W.heap.size)
  size : c1 < W.heap.size
  y : Boxed W yB 100 (.func (.yield l) #[] #[])
  s : Boxed W sB 3 (.int .i64 (pre.length : Nat))
  x1 : Boxed W k1 4 (.bool sec)
  x2 : Boxed W k2 38 (.slice A len cap)
  x3 : Boxed W k3 3 (.int .i64 num)
  ns : ∀ (j : Nat) (u : Value), (ns.map (Value.int .i64))[j]? = some u → W.cell? ⟨b, o + j, none⟩ = some u
theorem InI.own {J : List El → World → Prop} {B B' l k1 k2 k3 sB yB c1 : Nat} {sec : Bool} {num : Int} {A : Option Addr} {len cap b o : Nat} {ns : List Int} (hJ : AbidesX B J) (hB : B ≤ B') : OwnFrom B' (fun pre W => InI J l k1 k2 k3 sB yB c1 sec num A len cap b o ns pre W) := by
  intro pre W W' row h hg hr
  have hb : ∀ {k t : Nat} {v : Value}, Boxed W k t v → Boxed W' k t v := fun {k t v} hb => hb.kept hg fun e => by
    obtain ⟨_, x, hx, hc⟩ := hr k e.symm
    rw [show W.heap[k]? = _ from hb] at hx; cases hx; cases hc
  obtain ⟨xs, h1, h2, h3⟩ := h.els
  refine ⟨⟨xs, hJ xs W W' row h1 hg (fun r e => ?_), h2, fun y hy g hg' => ⟨(h3 y hy g hg').1, Nat.lt_of_lt_of_le (h3 y hy g hg').2 hg.size⟩⟩, Nat.lt_of_lt_of_le h.size hg.size, hb h.y, hb h.s, hb h.x1, hb h.x2, hb h.x3, fun j u hj => ?_⟩
  · obtain ⟨h5, x, hx, hc⟩ := hr r e
    exact ⟨Nat.le_trans hB h5, x, hx, (fun cur e => by subst e; cases hc), fun e => by rw [hc] at e; cases e⟩
  · have := h.ns j u hj
    exact cell_kept this hg (fun r e => (hr r e).2)
theorem chKey_len (sec : Bool) (ns : List Int) (l : List Nat) : (keysTo sec ns l).length = l.length + 1 := by simp [keysTo]
theorem drew_grown (W : World) : W.grownBy W.drew none := ⟨rfl, rfl, rfl, Nat.le_refl _, fun _ _ _ => rfl⟩
theorem arr8 {L : Array Bool} (h : L.size = 8) : ∃ l0 l1 l2 l3 l4 l5 l6 l7, L = #[l0, l1, l2, l3, l4, l5, l6, l7] := by
  obtain ⟨l⟩ := L
  match l, h with
  | [l0, l1, l2, l3, l4, l5, l6, l7], _ => exact ⟨l0, l1, l2, l3, l4, l5, l6, l7, rfl⟩
theorem ready_after {ops : Array Oper} {md : Region.Mode} {listed : Array Bool} {i : Nat} (h : i ∈ Region.ready md ops listed) : ((ops[i]?).map (fun o => o.after.all fun e => !Region.binds md e || listed.getD e.on false)).getD false = true := by
  unfold Region.ready at h
  have := (List.mem_filter.1 h).2
  rw [Bool.and_eq_true] at this
  exact this.2
set_option maxRecDepth 100000 in
set_option maxHeartbeats 4000000 in
theorem saving1_in (n : Nat) (hn : 6 ≤ n) (l k1 k2 k3 n0 : Nat) (sec : Bool) (num : Int) (b o len cap : Nat) (A : Option Addr) (hA : A = some ⟨b, o, none⟩ ∨ len = 0) (hlc : len ≤ cap) (hl : len ≤ 1048576) (ns : List Int) (hns : ns.length = len) (J : List El → World → Prop) (W : World)
    (hJ : AbidesX W.heap.size J) (hn0 : n0 ≤ W.heap.size)
    (hY : ∀ pre x W1, J pre W1 → W.heap.size ≤ W1.heap.size → pre.length < nCh len + 2 → x.own n0 W1 → Apart pre x → YieldAt Fence.wide (n - 1) Try.prog l #[x.enc] W1 fun e W' => e = .returned (.bool true) ∧ J (pre ++ [x]) W' ∧ KR n0 W.heap.size W1 W')
    (h1 : Boxed W k1 4 (.bool sec)) (h2 : Boxed W k2 38 (.slice A len cap)) (h3 : Boxed W k3 3 (.int .i64 num))
    (hc : ∀ (j : Nat) (u : Value), (ns.map (Value.int .i64))[j]? = some u → W.cell? ⟨b, o + j, none⟩ = some u) (hb0 : b < n0 ∨ ns = []) (h0 : J [] W) :
    CallsIn Fence.wide n Try.prog 79 #[.func (.yield l) #[] #[], .pointer (some ⟨k1, 0, none⟩), .pointer (some ⟨k2, 0, none⟩), .pointer (some ⟨k3, 0, none⟩)] W fun e W' => (∃ v, e = .returned v) ∧ ∃ xs, xs.map El.key = keysOf sec num ns ∧ J xs W' := by
  have mixed : Try.prog.follows .mixedOrders = true := by kernel_rfl
  have h1n : 1 ≤ n := by omega
  have hB := Boxed.new W 100 (.func (.yield l) #[] #[])
  have g1 := (h1.alloc (.cells #[.func (.yield l) #[] #[]] 100))
  have g2 := (h2.alloc (.cells #[.func (.yield l) #[] #[]] 100))
  have g3 := (h3.alloc (.cells #[.func (.yield l) #[] #[]] 100))
  have gJ := hJ.alloc (.cells #[.func (.yield l) #[] #[]] 100) h0
  have gc : ∀ (j : Nat) (u : Value), (ns.map (Value.int .i64))[j]? = some u → (W.alloc (.cells #[.func (.yield l) #[] #[]] 100)).cell? ⟨b, o + j, none⟩ = some u := fun j u hj => cell_al (hc j u hj)
  have gs : (W.alloc (.cells #[.func (.yield l) #[] #[]] 100)).heap.size = W.heap.size + 1 := by simp
  obtain ⟨fn, tmps, assign, body, hy, hR⟩ := hY [] ⟨sec, -1, 0, 0, .slice none 0 0, []⟩ _ gJ (by omega) (by simp) (own_nil _ _ _ _ _ _) (fun y hy => by cases hy)
  have d1 := g1.cell
  have d2 := g2.cell
  have d3 := g3.cell
  dsimp only [El.enc] at hy
  refine callsIn_of_wp_marks Try.func79 rfl trivial ?_ rfl
  simp only [Try.ntmps79, List.size_toArray, List.length_cons, List.length_nil, Nat.reduceAdd, Nat.reduceSub, Array.replicate_succ, Array.replicate_zero, List.push_toArray, List.append_toArray, List.nil_append, List.cons_append]
  gi_wp2
  refine hR.mono ?_
  rintro e W2 ⟨rfl, j2, r2⟩
  have b2 := r2.box hB (by decide) (by decide)
  have x1 := r2.box g1 (by decide) (by decide)
  have x2 := r2.box g2 (by decide) (by decide)
  have x3 := r2.box g3 (by decide) (by decide)
  have s2 : W.heap.size + 1 ≤ W2.heap.size := gs ▸ r2.size
  have ns2 : ∀ (j : Nat) (u : Value), (ns.map (Value.int .i64))[j]? = some u → W2.cell? ⟨b, o + j, none⟩ = some u := fun j u hj => by
    rcases hb0 with hb0 | hb0
    · exact (World.cell?_of_block (r2.below b hb0)).trans (gc j u hj)
    · subst hb0; simp at hj
  clear hR hy gc gJ
  have e1 := x1.cell
  have e2 := (x2.alloc (.cells #[.int .i64 0] 3)).cell
  have e3 := x3.cell
  gi_wp2_with (refine ⟨trivial, ?_⟩; gi_at_call 80; refine (chunk_in _ _ _ _ _).mono ?_; rintro e w' ⟨rfl, rfl⟩)
  obtain ⟨WL, hWL⟩ : ∃ WL, (((W2.alloc (Obj.cells #[Value.int IntKind.i64 0] 3)).alloc (Obj.cells #[Value.slice A len cap] 38)).alloc (Obj.cells #[Value.int IntKind.i64 8] 3)) = WL := ⟨_, rfl⟩
  have hgL : W2.grownBy WL none := by
    rw [← hWL]
    exact ((World.grownBy_alloc W2 _ none).trans (World.grownBy_alloc _ _ none)).trans (World.grownBy_alloc _ _ none)
  have hsL : WL.heap.size = W2.heap.size + 3 := by rw [← hWL]; simp
  have bs : Boxed WL W2.heap.size 3 (.int .i64 0) := by rw [← hWL]; exact ((Boxed.new W2 3 _).alloc _).alloc _
  have bc0 : Boxed WL (W2.heap.size + 1) 38 (.slice A len cap) := by
    rw [← hWL]
    have := Boxed.new (W2.alloc (.cells #[.int .i64 0] 3)) 38 (.slice A len cap)
    rw [World.size_alloc] at this
    exact this.alloc _
  have bc1 : Boxed WL (W2.heap.size + 1 + 1) 3 (.int .i64 8) := by
    rw [← hWL]
    have := Boxed.new ((W2.alloc (.cells #[.int .i64 0] 3)).alloc (.cells #[.slice A len cap] 38)) 3 (.int .i64 8)
    rw [World.size_alloc, World.size_alloc] at this
    exact this
  rw [hWL]
  refine wpIn_rangeFunc_ownG rfl h1n (gf := 86) (lb := #[.pointer (some ⟨W2.heap.size + 1, 0, none⟩), .pointer (some ⟨W2.heap.size + 1 + 1, 0, none⟩)]) rfl trivial (enters_of Try.func86 (by kernel_rfl) rfl)
    (chunk_stops (n - 1) (by omega) (W2.heap.size + 1) (W2.heap.size + 1 + 1) b o len cap A hA hlc hl WL bc0 bc1) KpC.trans (fun W l o o' _ h ho _ => KpC.putObj W l o o' h ho) (Below.refl _ _) (fun _ => rfl)
    (InI J l k1 k2 k3 W2.heap.size W.heap.size (W2.heap.size + 1 + 1) sec num A len cap b o ns) (fun _ _ _ => False) (InI.own hJ (by omega)) (fun _ _ _ _ _ hs _ _ => hs) ?h0
    (fun x => { tmps := #[.func (.yield l) #[] #[], .pointer (some ⟨k1, 0, none⟩), .pointer (some ⟨k2, 0, none⟩), .pointer (some ⟨k3, 0, none⟩), .pointer (some ⟨W.heap.size, 0, none⟩), .pointer (some ⟨W2.heap.size, 0, none⟩), chV b o len x.1, .func (.yield l) #[] #[], .bool sec,
      .agg #[.bool sec, .int .i64 (-1), .int .i64 0, .int .i64 0, .slice none 0 0], .bool true, .bool false, .slice A len cap, .func (.func 86) #[] #[.pointer (some ⟨W2.heap.size + 1, 0, none⟩), .pointer (some ⟨W2.heap.size + 1 + 1, 0, none⟩)], chV b o len x.1,
      undef, undef, undef, undef, undef, undef, undef, undef, undef, undef, undef, undef, undef, undef, undef, undef, undef], defers := [] }) ?assign ?body ?done ?stop
  case h0 => exact ⟨⟨_, hJ.keep j2 hgL, rfl, fun y hy g hg => by
      obtain rfl : y = _ := by simpa using hy
      cases hg⟩, by omega, b2.kept hgL (by simp), bs, x1.kept hgL (by simp), x2.kept hgL (by simp), x3.kept hgL (by simp), fun j u hj => cell_kept (ns2 j u hj) hgL (fun r e => by cases e)⟩
  case assign =>
    intro l2 x W3 K hK
    gi_wp2
    exact hK
  case body =>
    rintro l2 pre x W3 ⟨⟨xs, jx, hkeys, hblk⟩, hsz, y, s, z1, z2, z3, hns3⟩ hlen
    have hd : 1 ≤ n - 1 - 1 := by omega
    have hxl : xs.length = pre.length + 1 := by
      have := congrArg List.length hkeys
      rw [List.length_map, chKey_len, List.length_map] at this
      exact this
    obtain ⟨i, hi⟩ := x
    have hi8 : 8 * i < len := by unfold nCh at hi; omega
    obtain rfl : A = some ⟨b, o, none⟩ := hA.resolve_right (by omega)
    obtain ⟨zs, hzs⟩ : ∃ zs, (ns.drop (8 * i)).take 8 = zs := ⟨_, rfl⟩
    have hzl : zs.length = min 8 (len - 8 * i) := by rw [← hzs, List.length_take, List.length_drop, hns]
    obtain ⟨m, hm⟩ : ∃ m, min 8 (len - 8 * i) = m + 1 := ⟨min 8 (len - 8 * i) - 1, by omega⟩
    have hm8 : m < 8 := by omega
    have hcl : ∀ j u, (zs.map (Value.int .i64))[j]? = some u → W3.drew.cell? ((⟨b, o + 8 * i, none⟩ : Addr).add j) = some u := fun j u hj => by
      have hj' : (ns.map (Value.int .i64))[8 * i + j]? = some u := by
        rw [← hzs, List.map_take, List.map_drop] at hj
        have h8 := hj
        rw [List.getElem?_take] at h8
        split at h8
        · rw [List.getElem?_drop] at h8; exact h8
        · cases h8
      have := hns3 (8 * i + j) u hj'
      rw [show o + (8 * i + j) = o + 8 * i + j by omega] at this
      have h7 : (⟨b, o + 8 * i, none⟩ : Addr).add j = ⟨b, o + 8 * i + j, none⟩ := by
        unfold Addr.add
        split
        · subst j; rfl
        · rfl
      rw [h7]
      exact cell_kept this (drew_grown W3) (fun r e => by cases e)
    rw [hm] at hzl
    have HC := CallsIn.inRound l2 (clone_in (n - 1 - 1 - 1) ⟨b, o + 8 * i, none⟩ (m + 1) (m + 1) zs hzl (by omega) W3.drew hcl)
    clear hcl
    have ye := y.cell
    have se := s.cell
    have f1 := z1.cell
    have gdr := drew_grown W3
    have HY : ∀ (v : Value) (w' : World), w'.ownsRow W3.drew.heap.size 3 1 v (m + 1) (zs.map (Value.int .i64)) → W3.drew.grownBy w' none → YieldAt (Fence.wide.inRound l2) (n - 1 - 1 - 1) Try.prog l #[.agg #[.bool sec, .int .i64 (pre.length : Nat), .int .i64 0, .int .i64 0, v]] w' fun e W' => e = .returned (.bool true) ∧ J (xs ++ [⟨sec, (pre.length : Nat), 0, 0, v, zs⟩]) W' ∧ KR n0 W.heap.size w' W' := fun v w' hown hg => by
      have hsz' : W3.heap.size ≤ w'.heap.size := hg.size
      refine yield_in l2 (yield_any rfl (n - 1 - 1 - 1) (hY xs ⟨sec, (pre.length : Nat), 0, 0, v, zs⟩ w' (hJ.keep (hJ.keep jx gdr) hg) (by omega) (by omega) (own_base (base := W3.drew.heap.size) (by show n0 ≤ W3.heap.size; omega) (by unfold El.own; rw [hzl]; exact hown)) (fun y hy g hg' e => ?_)))
      have h1 := (hblk y hy g e).2
      have h2 : W3.drew.heap.size ≤ g := (own_blk (x := ⟨sec, (pre.length : Nat), 0, 0, v, zs⟩) (base := W3.drew.heap.size) (by unfold El.own; rw [hzl]; exact hown) hg').1
      have h3 : W3.heap.size ≤ g := h2
      omega
    dsimp only [chV]
    rw [hm]
    gi_wp2
    refine wpIn_region_any mixed ?_
    change wpAnyIn _ _ _ _ _ _ _ _ _ (World.drew _)
    refine wpAnyIn_inv (fun L a w => ∃ g cap', a = { tmps := #[.func (.yield l) #[] #[], .pointer (some ⟨k1, 0, none⟩), .pointer (some ⟨k2, 0, none⟩), .pointer (some ⟨k3, 0, none⟩), .pointer (some ⟨W.heap.size, 0, none⟩), .pointer (some ⟨W2.heap.size, 0, none⟩), .slice (some ⟨b, o + 8 * i, none⟩) (m + 1) (m + 1), .func (.yield l) #[] #[], .bool sec,
      .agg #[.bool sec, .int .i64 (-1), .int .i64 0, .int .i64 0, .slice none 0 0], .bool true, .bool false, .slice (some ⟨b, o, none⟩) len cap, .func (.func 86) #[] #[.pointer (some ⟨W2.heap.size + 1, 0, none⟩), .pointer (some ⟨W2.heap.size + 1 + 1, 0, none⟩)], .slice (some ⟨b, o + 8 * i, none⟩) (m + 1) (m + 1),
      cond (L.getD 0 false) (.func (.yield l) #[] #[]) undef, cond (L.getD 1 false) (.bool sec) undef, cond (L.getD 2 false) (.int .i64 (pre.length : Nat)) undef, cond (L.getD 3 false) (.slice (some ⟨b, o + 8 * i, none⟩) (m + 1) (m + 1)) undef, cond (L.getD 4 false) (.slice (some ⟨g, 0, none⟩) (m + 1) cap') undef,
      cond (L.getD 5 false) (.agg #[.bool sec, .int .i64 (pre.length : Nat), .int .i64 0, .int .i64 0, .slice (some ⟨g, 0, none⟩) (m + 1) cap']) undef, cond (L.getD 6 false) (.bool true) undef, cond (L.getD 7 false) (.bool false) undef, undef, undef, undef, undef, undef, undef, undef, undef, undef], defers := [] } ∧
      (L.getD 6 false = false → Boxed w W.heap.size 100 (.func (.yield l) #[] #[]) ∧ Boxed w W2.heap.size 3 (.int .i64 (pre.length : Nat)) ∧ Boxed w k1 4 (.bool sec)) ∧ (L.getD 4 false = false → w = W3.drew) ∧
      (L.getD 4 false = true → ∃ w', w'.ownsRow W3.drew.heap.size 3 1 (.slice (some ⟨g, 0, none⟩) (m + 1) cap') (m + 1) (zs.map (Value.int .i64)) ∧ W3.drew.grownBy w' none ∧ (L.getD 6 false = false → w = w') ∧ (L.getD 6 false = true → J (xs ++ [⟨sec, (pre.length : Nat), 0, 0, .slice (some ⟨g, 0, none⟩) (m + 1) cap', zs⟩]) w ∧ KR n0 W.heap.size w' w)) ∧
      (L.getD 4 false = true → L.getD 3 false = true) ∧ (L.getD 5 false = true → L.getD 1 false = true ∧ L.getD 2 false = true ∧ L.getD 4 false = true) ∧ (L.getD 6 false = true → L.getD 0 false = true ∧ L.getD 5 false = true) ∧ (L.getD 7 false = true → L.getD 6 false = true))
      ?step ?fin _ _ _ _ rfl (by decide) ?start
    case start =>
      exact ⟨0, 0, rfl, fun _ => ⟨y.kept gdr (by simp), s.kept gdr (by simp), z1.kept gdr (by simp)⟩, fun _ => rfl, fun h => by (cases h), fun h => by (cases h), fun h => by (cases h), fun h => by (cases h), fun h => by (cases h)⟩
    case step =>
      intro L a w ix hs hInv hr
      obtain ⟨l0, l1, l2', l3, l4, l5, l6, l7, rfl⟩ := arr8 hs
      obtain ⟨g, cap', rfl, hbx, hw0, hw1, c4, c5, c6, c7⟩ := hInv
      have hlt := (ready_false hr hs).1
      have hf := (ready_false hr hs).2
      have hix : ix = 0 ∨ ix = 1 ∨ ix = 2 ∨ ix = 3 ∨ ix = 4 ∨ ix = 5 ∨ ix = 6 ∨ ix = 7 := by simp at hlt; omega
      have haf := ready_after hr
      have HW0 := Lib.hid hw0
      have HW1 := Lib.hid hw1
      clear hw0 hw1
      rcases hix with rfl | rfl | rfl | rfl | rfl | rfl | rfl | rfl
      · obtain rfl : l0 = false := by simpa using hf
        obtain rfl : l6 = false := by cases l6 with | false => rfl | true => exact absurd (c6 rfl).1 (by simp)
        obtain ⟨q1, q2, q3⟩ := hbx rfl
        have p1 := q1.cell
        refine wpOpIn_step rfl (fun K hK => ?_)
        go_simp
        refine hK _ _ ⟨g, cap', rfl, fun _ => ⟨q1, q2, q3⟩, HW0.out, HW1.out, c4, c5, fun h => (by cases h), c7⟩
      · obtain rfl : l1 = false := by simpa using hf
        obtain rfl : l5 = false := by cases l5 with | false => rfl | true => exact absurd (c5 rfl).1 (by simp)
        obtain rfl : l6 = false := by cases l6 with | false => rfl | true => exact absurd (c6 rfl).2 (by simp)
        obtain ⟨q1, q2, q3⟩ := hbx rfl
        have p1 := q3.cell
        refine wpOpIn_step rfl (fun K hK => ?_)
        go_simp
        refine hK _ _ ⟨g, cap', rfl, fun _ => ⟨q1, q2, q3⟩, HW0.out, HW1.out, c4, fun h => (by cases h), c6, c7⟩
      · obtain rfl : l2' = false := by simpa using hf
        obtain rfl : l5 = false := by cases l5 with | false => rfl | true => exact absurd (c5 rfl).2.1 (by simp)
        obtain rfl : l6 = false := by cases l6 with | false => rfl | true => exact absurd (c6 rfl).2 (by simp)
        obtain ⟨q1, q2, q3⟩ := hbx rfl
        have p1 := q2.cell
        refine wpOpIn_step rfl (fun K hK => ?_)
        go_simp
        refine hK _ _ ⟨g, cap', rfl, fun _ => ⟨q1, q2, q3⟩, HW0.out, HW1.out, c4, fun h => (by cases h), c6, c7⟩
      · obtain rfl : l3 = false := by simpa using hf
        obtain rfl : l4 = false := by cases l4 with | false => rfl | true => exact absurd (c4 rfl) (by simp)
        refine wpOpIn_step rfl (fun K hK => ?_)
        go_simp
        refine hK _ _ ⟨g, cap', rfl, hbx, HW0.out, HW1.out, fun _ => rfl, c5, c6, c7⟩
      · obtain rfl : l4 = false := by simpa using hf
        obtain rfl : l5 = false := by cases l5 with | false => rfl | true => exact absurd (c5 rfl).2.2 (by simp)
        obtain rfl : l6 = false := by cases l6 with | false => rfl | true => exact absurd (c6 rfl).2 (by simp)
        obtain rfl : l3 = true := by simpa [Region.binds] using haf
        obtain rfl := HW0.out rfl
        obtain ⟨q1, q2, q3⟩ := hbx rfl
        refine wpOpIn_step rfl (fun K hK => ?_)
        go_simp
        gi_wp2_with (refine ⟨trivial, ?_⟩; gi_at_call 52; refine HC.mono ?_; rintro e w' ⟨v, rfl, hown, hg⟩; obtain ⟨g', cap2, rfl⟩ := ownsRow_succ hown)
        refine ⟨g', cap2, rfl, fun _ => ⟨q1.kept hg (by simp), q2.kept hg (by simp), q3.kept hg (by simp)⟩, fun h => (by cases h), fun _ => ⟨w', hown, hg, fun _ => rfl, fun h => (by cases h)⟩, fun _ => rfl, fun h => (by cases h), fun h => (by cases h), c7⟩
      · obtain rfl : l5 = false := by simpa using hf
        obtain rfl : l6 = false := by cases l6 with | false => rfl | true => exact absurd (c6 rfl).2 (by simp)
        obtain ⟨rfl, rfl, rfl⟩ : l1 = true ∧ l2' = true ∧ l4 = true := by simpa [Region.binds] using haf
        obtain rfl : l3 = true := c4 rfl
        refine wpOpIn_step rfl (fun K hK => ?_)
        go_simp
        refine hK _ _ ⟨g, cap', rfl, hbx, HW0.out, HW1.out, fun _ => rfl, fun _ => ⟨rfl, rfl, rfl⟩, fun h => (by cases h), c7⟩
      · obtain rfl : l6 = false := by simpa using hf
        obtain ⟨rfl, rfl, rfl⟩ : l0 = true ∧ l5 = true ∧ l4 = true := by simpa [Region.binds] using haf
        obtain rfl : l3 = true := c4 rfl
        obtain ⟨rfl, rfl, _⟩ : l1 = true ∧ l2' = true ∧ True := ⟨(c5 rfl).1, (c5 rfl).2.1, trivial⟩
        obtain rfl : l7 = false := by cases l7 with | false => rfl | true => exact absurd (c7 rfl) (by simp)
        obtain ⟨w', hown, hg, hw, _⟩ := HW1.out rfl
        obtain rfl := hw rfl
        obtain ⟨fn, tmps, assign, body, hy, hR⟩ := HY _ _ hown hg
        refine wpOpIn_step rfl (fun K hK => ?_)
        go_simp
        gi_wp2
        refine hR.mono ?_
        rintro e W4 ⟨rfl, j4, r4⟩
        refine hK _ _ ⟨g, cap', rfl, fun h => (by cases h), fun h => (by cases h), fun _ => ⟨w, hown, hg, fun h => (by cases h), fun _ => ⟨j4, r4⟩⟩, c4, c5, fun _ => ⟨rfl, rfl⟩, fun _ => rfl⟩
      · obtain rfl : l7 = false := by simpa using hf
        obtain rfl : l6 = true := by simpa [Region.binds] using haf
        obtain ⟨rfl, rfl⟩ : l0 = true ∧ l5 = true := c6 rfl
        obtain ⟨rfl, rfl, rfl⟩ : l1 = true ∧ l2' = true ∧ l4 = true := c5 rfl
        obtain rfl : l3 = true := c4 rfl
        refine wpOpIn_step rfl (fun K hK => ?_)
        go_simp
        refine hK _ _ ⟨g, cap', rfl, hbx, HW0.out, HW1.out, c4, c5, c6, fun _ => rfl⟩
    case fin =>
      intro L a w hs hInv hr
      obtain ⟨l0, l1, l2', l3, l4, l5, l6, l7, rfl⟩ := arr8 hs
      obtain ⟨g, cap', rfl, hbx, hw0, hw1, c4, c5, c6, c7⟩ := hInv
      have h3 : l3 = true := by cases l3 with | true => rfl | false => exact absurd hr (by simp [Region.ready, Region.binds, List.range, List.range.loop])
      obtain rfl := h3
      obtain rfl : l0 = true := by cases l0 with | true => rfl | false => exact absurd hr (by simp [Region.ready, Region.binds, List.range, List.range.loop])
      obtain rfl : l1 = true := by cases l1 with | true => rfl | false => exact absurd hr (by simp [Region.ready, Region.binds, List.range, List.range.loop])
      obtain rfl : l2' = true := by cases l2' with | true => rfl | false => exact absurd hr (by simp [Region.ready, Region.binds, List.range, List.range.loop])
      obtain rfl : l4 = true := by cases l4 with | true => rfl | false => exact absurd hr (by simp [Region.ready, Region.binds, List.range, List.range.loop])
      obtain rfl : l5 = true := by cases l5 with | true => rfl | false => exact absurd hr (by simp [Region.ready, Region.binds, List.range, List.range.loop])
      obtain rfl : l6 = true := by cases l6 with | true => rfl | false => exact absurd hr (by simp [Region.ready, Region.binds, List.range, List.range.loop])
      obtain rfl : l7 = true := by cases l7 with | true => rfl | false => exact absurd hr (by simp [Region.ready, Region.binds, List.range, List.range.loop])
      obtain ⟨w', hown, hg, _, hw⟩ := hw1 rfl
      obtain ⟨j4, r4⟩ := hw rfl
      have b4 : Boxed w W2.heap.size 3 (.int .i64 (pre.length : Nat)) := r4.box ((s.kept gdr (by simp)).kept hg (by simp)) (by decide) (by decide)
      have b5 := b4.cell
      have b6 := b4.frozen
      clear hw hbx hw0 hw1 hr
      simp only [show (#[true, true, true, true, true, true, true, true] : Array Bool).getD 0 false = true from rfl, show (#[true, true, true, true, true, true, true, true] : Array Bool).getD 1 false = true from rfl, show (#[true, true, true, true, true, true, true, true] : Array Bool).getD 2 false = true from rfl, show (#[true, true, true, true, true, true, true, true] : Array Bool).getD 3 false = true from rfl, show (#[true, true, true, true, true, true, true, true] : Array Bool).getD 4 false = true from rfl, show (#[true, true, true, true, true, true, true, true] : Array Bool).getD 5 false = true from rfl, show (#[true, true, true, true, true, true, true, true] : Array Bool).getD 6 false = true from rfl, show (#[true, true, true, true, true, true, true, true] : Array Bool).getD 7 false = true from rfl, cond_true]
      gi_wp2
      have hW3 : W3.drew.heap.size = W3.heap.size := rfl
      have hgs := hg.size
      have r4s := r4.size
      have hk1 := h1.lt
      have hk2 := h2.lt
      have hk3 := h3.lt
      have hnew := fun (q : Nat) => own_blk (g := q) (x := ⟨sec, (pre.length : Nat), 0, 0, .slice (some ⟨g, 0, none⟩) (m + 1) cap', zs⟩) (base := W3.drew.heap.size) (W := w') (by unfold El.own; rw [hzl]; exact hown)
      have hp : pre.length < 131073 := by unfold nCh at hlen; omega
      have hbk : ∀ y ∈ xs ++ [(⟨sec, (pre.length : Nat), 0, 0, .slice (some ⟨g, 0, none⟩) (m + 1) cap', zs⟩ : El)], ∀ q, y.sl.ownBlock = some q → W2.heap.size + 1 + 1 < q ∧ q < w.heap.size := fun y hy q hq => by
        rcases List.mem_append.1 hy with hy | hy
        · have := hblk y hy q hq; omega
        · obtain rfl : y = _ := by simpa using hy
          have := hnew q hq
          omega
      refine ⟨(((KeepsFrom.of_grownBy gdr (fun j e => by cases e)).trans (KeepsFrom.of_grownBy hg (fun j e => by cases e))).trans (kf_kr r4 (by omega))).trans ((KeepsOthers.setCell _ _ _).from _), ⟨fun v bx => (r4.box ((bx.kept gdr (by simp)).kept hg (by simp)) (by decide) (by decide)).other (by omega) _, fun v bx => (r4.box ((bx.kept gdr (by simp)).kept hg (by simp)) (by decide) (by decide)).other (by omega) _⟩, ?_⟩
      refine ⟨⟨_, hJ _ w _ (some W2.heap.size) j4 (grownBy_setCell' w _ _) (fun r e => by cases e; exact ⟨by omega, _, b4, (fun cur e => by cases e), fun _ y hy e => by have := hbk y hy _ e; omega⟩), ?_, fun y hy q hq => by have := hbk y hy q hq; simpa using this⟩, ?_, ?_, ?_, ?_, ?_, ?_, ?_⟩
      · rw [List.map_append, List.map_append, hkeys, List.map_cons, List.map_nil, List.map_cons, List.map_nil, keysTo_snoc]
        simp only [El.key, chKey, List.length_map, hzs]
      · have := hsz; simp; omega
      · exact (r4.box ((y.kept gdr (by simp)).kept hg (by simp)) (by decide) (by decide)).other (by omega) _
      · have := b4.set (.int .i64 (wrap64 ((pre.length : Int) + 1)))
        have e : wrap64 ((pre.length : Int) + 1) = ((pre ++ [(⟨i, hi⟩ : ChI len)]).length : Nat) := by rw [List.length_append]; simp only [wrap64, List.length_singleton]; omega
        rw [← e]; exact this
      · exact (r4.box ((z1.kept gdr (by simp)).kept hg (by simp)) (by decide) (by decide)).other (by omega) _
      · exact (r4.box ((z2.kept gdr (by simp)).kept hg (by simp)) (by decide) (by decide)).other (by omega) _
      · exact (r4.box ((z3.kept gdr (by simp)).kept hg (by simp)) (by decide) (by decide)).other (by omega) _
      · intro j u hj
        rcases hb0 with hb0 | hb0
        · refine (World.cell?_of_block (Below.heap_setCell w ⟨W2.heap.size, 0, none⟩ _ b (by show b ≠ W2.heap.size; omega))).trans ((World.cell?_of_block (r4.below b hb0)).trans ?_)
          exact cell_kept (cell_kept (hns3 j u hj) gdr (fun r e => by cases e)) hg (fun r e => by cases e)
        · subst hb0; simp at hj
  case done =>
    rintro D ys W3 hD rfl ⟨⟨xs, jx, hkeys, hblk⟩, hsz, y, s, z1, z2, z3, hns3⟩ hK
    have hxl : xs.length = nCh len + 1 := by
      have := congrArg List.length hkeys
      rw [List.length_map, chKey_len, List.length_map, allCh_len] at this
      exact this
    obtain ⟨fn, tmps, assign, body, hy, hR⟩ := hY xs ⟨sec, -1, num, (len : Nat), .slice none 0 0, []⟩ W3 jx (by omega) (by omega) (own_nil _ _ _ _ _ _) (fun y hy q hq => by cases hq)
    dsimp only [El.enc] at hy
    have ye := y.cell
    have f1 := z1.cell
    have f2 := z2.cell
    have f3 := z3.cell
    gi_wp2
    refine hR.mono ?_
    rintro e W4 ⟨rfl, j4, r4⟩
    gi_wp2
    have hK4 := r4.rest D _ (by omega) hK rfl
    refine ⟨by simp, .inl ⟨_, _, rfl, run_takeDeferred hK4, ?_⟩⟩
    refine ⟨_, results_none rfl _ _ _, ⟨_, rfl⟩, xs ++ [⟨sec, -1, num, (len : Nat), .slice none 0 0, []⟩], ?_, hJ _ W4 _ (some D) j4 (grownBy_putObj' _ D _) (fun r e => by cases e; exact ⟨by omega, _, hK4, (fun cur e => by cases e), fun e => by cases e⟩)⟩
    rw [List.map_append, hkeys, allCh_map, List.map_cons, List.map_nil, keysOf, hns]
    rfl
  case stop =>
    rintro D c pre W3 _ _ h _
    exact h.elim
open Go Go.RowKit Go.Shelf Go.Sx
attribute [local go_sem] Oper.semAt_some
def El.cells (x : El) : List Value := [.bool x.sec, .int .i64 x.i, .int .i64 x.num, .int .i64 x.cnt, x.sl]
def NodupEl (xs : List El) : Prop := xs.Pairwise fun y x => ∀ g, x.sl.ownBlock = some g → y.sl.ownBlock ≠ some g
/-- What stands while the steps are gathered. -/
structure JA (B n0 : Nat) (w0 : World) (xs : List El) (W : World) : Prop where
  below : Below n0 w0 W
  box : ∃ v, Boxed W B 43 v ∧ W.ownsRow n0 59 5 v xs.length (xs.flatMap El.cells)
  own : ∀ x ∈ xs, x.own n0 W
  nodup : NodupEl xs
theorem row_blk {base : Nat} {W : World} {e size k : Nat} {v : Value} {xs : List Value} (h : W.ownsRow base e size v k xs) {g : Nat} (hg : v.ownBlock = some g) : base ≤ g ∧ g < W.heap.size ∧ ∃ cur, W.heap[g]? = some (.cells cur e (0, 0)) := by
  rcases h.2 with ⟨h1, _⟩ | ⟨g', cap, cur, h1, h2, h3, _⟩
  · rw [h1] at hg; cases hg
  · rw [h1] at hg; cases hg
    exact ⟨h2, (Array.getElem?_eq_some_iff.1 h3).1, cur, h3⟩
theorem row_kept {base : Nat} {W W' : World} {e size k : Nat} {v : Value} {xs : List Value} (h : W.ownsRow base e size v k xs) (hk : ∀ g, v.ownBlock = some g → W'.heap[g]? = W.heap[g]?) : W'.ownsRow base e size v k xs := by
  refine ⟨h.1, ?_⟩
  rcases h.2 with h2 | ⟨g, cap, cur, h1, h2, h3, h4⟩
  · exact .inl h2
  · exact .inr ⟨g, cap, cur, h1, h2, (hk g (by rw [h1]; rfl)).trans h3, h4⟩
theorem JA.abides {B n0 : Nat} {w0 : World} {B' : Nat} (hB : B < B') (hn : n0 ≤ B') (hw : n0 ≤ w0.heap.size) : AbidesX B' (JA B n0 w0) := by
  rintro s W W' row ⟨h1, ⟨v, hv, hr⟩, h3, h4⟩ hg hrow
  refine ⟨h1.trans ⟨hg.os, hg.tape, hg.output, hg.size, fun k hk => hg.block k (by have := h1.size; omega) (fun e => by have := (hrow k e.symm).1; omega)⟩, ⟨v, hv.kept hg (fun e => by have := (hrow B e.symm).1; omega), row_kept hr fun g hg' => hg.block g (row_blk hr hg').2.1 (fun e => ?_)⟩, fun x hx => own_kept (h3 x hx) (fun k cs hk hc => (hg.block k (Array.getElem?_eq_some_iff.1 hc).1 (fun e => ?_)).trans hc), h4⟩
  · obtain ⟨_, o, ho, hne, _⟩ := hrow g e.symm
    obtain ⟨cur, hc⟩ := (row_blk hr hg').2.2
    rw [hc] at ho; cases ho
    exact hne cur rfl
  · obtain ⟨_, o, ho, _, hc2⟩ := hrow k e.symm
    rw [hc] at ho; cases ho
    exact hc2 rfl x hx hk
/-- The iterator's contract. -/
def SeqX (n n0 gf : Nat) (lb : Array Value) (S : List El → Prop) (N : Nat) (w : World) : Prop :=
  ∀ (l : Nat) (J : List El → World → Prop) (W : World), Below w.heap.size w W → AbidesX W.heap.size J →
    (∀ pre x W1, J pre W1 → W.heap.size ≤ W1.heap.size → pre.length < N → x.own n0 W1 → Apart pre x → YieldAt Fence.wide (n - 1) Try.prog l #[x.enc] W1 fun e W' => e = .returned (.bool true) ∧ J (pre ++ [x]) W' ∧ KR n0 W.heap.size W1 W') →
    J [] W → CallsIn Fence.wide n Try.prog gf (#[.func (.yield l) #[] #[]] ++ lb) W fun e W' => (∃ v, e = .returned v) ∧ ∃ xs, S xs ∧ J xs W'
theorem KR.trans {n0 B : Nat} {X Y Z : World} (h : KR n0 B X Y) (k : KR n0 B Y Z) : KR n0 B X Z :=
  ⟨Nat.le_trans h.size k.size, fun i hi => (k.below i hi).trans (h.below i hi), fun i cs t hi h1 h2 => k.cells i cs t (h.cells i cs t hi h1 h2) h1 h2, fun i o hB hi ho => k.rest i o hB (h.rest i o hB hi ho) ho⟩
theorem KR.mono {n0 B B' : Nat} {X Y : World} (h : KR n0 B X Y) (hB : B ≤ B') : KR n0 B' X Y := ⟨h.size, h.below, h.cells, fun i o hi => h.rest i o (Nat.le_trans hB hi)⟩
theorem KR.alloc {n0 : Nat} (B : Nat) (W : World) (o : Obj) (hn : n0 ≤ W.heap.size) : KR n0 B W (W.alloc o) :=
  ⟨by simp, fun k hk => Below.heap_alloc W o k (by omega), fun k cs t hk _ _ => (Below.heap_alloc W o k (Array.getElem?_eq_some_iff.1 hk).1).trans hk, fun k o' _ hk _ => (Below.heap_alloc W o k (Array.getElem?_eq_some_iff.1 hk).1).trans hk⟩
theorem KR.putObj {n0 B : Nat} {W : World} {l : Nat} {o : Obj} (o' : Obj) (hn : n0 ≤ l) (hB : l < B) (h : W.heap[l]? = some o) (ho : o.isCells = false) : KR n0 B W (W.putObj l o') :=
  ⟨(grownBy_putObj' W l o').size, fun k hk => World.putObj_heap_other (by omega), fun k cs t hk _ _ => (World.putObj_heap_other (fun e => by subst e; rw [h] at hk; cases hk; cases ho)).trans hk, fun k o'' hk hh _ => (World.putObj_heap_other (by omega)).trans hh⟩
theorem KR.row {n0 B : Nat} {W W' : World} {row : Option Nat} (hg : W.grownBy W' row) (hn : n0 ≤ W.heap.size) (hr : ∀ r, row = some r → n0 ≤ r ∧ ∃ (cur : Array Value) (t : TypeId), W.heap[r]? = some (.cells cur t (0, 0)) ∧ (t = 59 ∨ t = 43)) : KR n0 B W W' :=
  ⟨hg.size, fun k hk => hg.block k (by omega) (fun e => by have := (hr k e.symm).1; omega), fun k cs t hk h1 h2 => (hg.block k (Array.getElem?_eq_some_iff.1 hk).1 (fun e => by
    obtain ⟨_, cur, t', hc, ht⟩ := hr k e.symm
    rw [hk] at hc; cases hc
    rcases ht with rfl | rfl
    · exact h1 rfl
    · exact h2 rfl)).trans hk, fun k o _ hk ho => (hg.block k (Array.getElem?_eq_some_iff.1 hk).1 (fun e => by
    obtain ⟨_, cur, t', hc, ht⟩ := hr k e.symm
    rw [hk] at hc; cases hc; cases ho)).trans hk⟩
/-- The loop's law for this contract. -/
theorem rangeX {n n0 gf N : Nat} {lb : Array Value} {S : List El → Prop} {g : Operand} {ps : Array Tmp} {assign body : Code} {Q : Exit → Act → World → Prop} {a : Act} {w w' : World} (h1 : 1 ≤ n) (hg : a.eval g = .func (.func gf) #[] lb)
    (eg : ∀ args w, (callFunc gf args).run Try.prog w = .ok (.enter gf args) w) (hseq : SeqX (n - 1) n0 gf lb S N w') (hb0 : Below w'.heap.size w' w) (hps : ps.size = 1) (hn0 : n0 ≤ w.heap.size)
    (I : List El → World → Prop) (hI : AbidesX w.heap.size I) (h0 : I [] w) (Ax : El → Act → World → Prop) (hAx : ∀ x a' W l o o', Ax x a' W → W.heap[l]? = some o → o.isCells = false → Ax x a' (W.putObj l o'))
    (hassign : ∀ (l : Nat) (pre : List El) (x : El) (W : World) (K : Act → World → Prop), I pre W → x.own n0 W → w.heap.size ≤ W.heap.size → (∀ a' W', KR n0 w.heap.size W W' → I pre W' → x.own n0 W' → Ax x a' W' → K a' W') →
      assign.wpIn (Fence.wide.inRound l) (n - 1 - 1) Try.prog (Exit.then K (fun _ _ _ => False)) { tmps := (ps.zip #[x.enc]).foldl (fun t (p, v) => t.setIfInBounds p v) a.tmps, defers := [] } W)
    (hbody : ∀ (l : Nat) (pre : List El) (x : El) (a' : Act) (W : World), I pre W → x.own n0 W → Apart pre x → Ax x a' W → pre.length < N → w.heap.size ≤ W.heap.size → body.wpIn (Fence.wide.inRound l) (n - 1 - 1) Try.prog (fun e _ W' => e = .normal ∧ KR n0 w.heap.size W W' ∧ I (pre ++ [x]) W') a' W)
    (hdone : ∀ (D : Nat) (xs : List El) (W : World), w.heap.size ≤ D → S xs → I xs W → W.heap[D]? = some (.deferred (some [])) → Q .normal { a with defers := { target := .collected D, args := #[] } :: a.defers } W) :
    (Code.rangeFunc g ps assign body).wpIn Fence.wide n Try.prog Q a w := by
  refine wpIn_rangeFunc ?_
  intro fn hfn
  obtain ⟨rec, hrec⟩ : ∃ rec : LoopState → Option Code → Loop, rec = fun st pe => { state := st, pending := pe, fn, tmps := a.tmps, params := ps, assign, body, defers := w.heap.size } := ⟨_, rfl⟩
  obtain ⟨W1, hW1⟩ : ∃ W1, (w.alloc (.deferred (some []))).alloc (.loop (rec .ready none)) = W1 := ⟨_, rfl⟩
  have hs1 : W1.heap.size = w.heap.size + 2 := by rw [← hW1]; simp
  have hL1 : W1.heap[w.heap.size + 1]? = some (.loop (rec .ready none)) := by
    rw [← hW1]; have := World.alloc_heap_new (w.alloc (.deferred (some []))) (.loop (rec .ready none)); rwa [World.size_alloc] at this
  have hK1 : W1.heap[w.heap.size]? = some (.deferred (some [])) := by
    rw [← hW1]; exact (Below.heap_alloc _ _ _ (by simp)).trans (World.alloc_heap_new w _)
  have hI1 : I [] W1 := by rw [← hW1]; exact hI.alloc _ (hI.alloc _ h0)
  have hb1 : Below w'.heap.size w' W1 := by
    rw [← hW1]; exact hb0.trans ((((Below.refl _ w).alloc (Nat.le_refl _) _).alloc (by simp) _).mono hb0.size)
  have hIp : ∀ {s : List El} {W : World} {l : Nat} {o : Obj} (o' : Obj), I s W → w.heap.size ≤ l → W.heap[l]? = some o → o.isCells = false → I s (W.putObj l o') := fun {s W l o} o' hs hl ho hc =>
    hI s W _ (some l) hs (grownBy_putObj' W l o') (fun r e => by cases e; exact ⟨hl, o, ho, (fun cur e => by subst e; cases hc), fun e => by rw [hc] at e; cases e⟩)
  refine ⟨w.heap.size + 1, [{ target := .collected w.heap.size, args := #[] }], W1, { target := .fn (.func gf) lb, args := #[.func (.yield (w.heap.size + 1)) #[] #[]] }, W1, gf,
    #[.func (.yield (w.heap.size + 1)) #[] #[]] ++ lb, W1, ?_, ?_, ?_, ?_, fun _ => h1, ?_⟩
  · rw [← hW1, hrec]; exact run_enterLoop_outer _ _ _ _ _
  · simp only [resolve, hg]
    simp [go_sem]
  · intro f' hf'; trivial
  · simp [invoke, go_sem, eg]
  · refine (hseq (w.heap.size + 1) (fun pre W => I pre W ∧ W.heap[w.heap.size + 1]? = some (.loop (rec .ready none)) ∧ W.heap[w.heap.size]? = some (.deferred (some []))) W1 hb1
      (fun s A B row hs hg' hr => ⟨hI s A B row hs.1 hg' (fun r e => ⟨by have := (hr r e).1; omega, (hr r e).2⟩), (hg'.block _ (Array.getElem?_eq_some_iff.1 hs.2.1).1 (fun e => by have := (hr _ e.symm).1; omega)).trans hs.2.1, (hg'.block _ (Array.getElem?_eq_some_iff.1 hs.2.2).1 (fun e => by have := (hr _ e.symm).1; omega)).trans hs.2.2⟩)
      ?_ ⟨hI1, hL1, hK1⟩).mono ?_
    · rintro pre x W ⟨hi, hl, hk⟩ hsW hlen hox hap
      have hlt : w.heap.size + 1 < W.heap.size := (Array.getElem?_eq_some_iff.1 hl).1
      have hy := run_yield (P := Try.prog) (args := #[x.enc]) hl (by rw [hrec]; exact hps.symm)
      rw [hrec] at hy
      refine ⟨fn, _, assign, body, hy, roundIn_of_wpIn hfn (hassign _ pre x W _ hi hox (by omega) ?_)⟩
      clear hy
      intro a' Wa hka hia hoa hax
      have hl' := hka.rest _ _ (by omega) hl rfl
      have hk' := hka.rest _ _ (Nat.le_refl _) hk rfl
      have hlt' : w.heap.size + 1 < Wa.heap.size := (Array.getElem?_eq_some_iff.1 hl').1
      refine ⟨_, run_beginRound hl' (by rw [hrec]), ?_⟩
      have hl2 : (Wa.putObj (w.heap.size + 1) (.loop { rec .ready none with state := .busy })).heap[w.heap.size + 1]? = some (.loop { rec .ready none with state := .busy }) := World.putObj_heap_same hlt'
      have hk2 : (Wa.putObj (w.heap.size + 1) (.loop { rec .ready none with state := .busy })).heap[w.heap.size]? = some (.deferred (some [])) := (World.putObj_heap_other (by omega)).trans hk'
      have hw2 : KR n0 W1.heap.size Wa (Wa.putObj (w.heap.size + 1) (.loop { rec .ready none with state := .busy })) := KR.putObj _ (by omega) (by omega) hl' rfl
      refine wpIn_mono (hbody _ pre x a' _ (hIp _ hia (by omega) hl' rfl) (own_kept hoa (fun k cs _ hc => hw2.cells k cs 3 hc (by decide) (by decide))) hap (hAx x a' _ _ _ _ hax hl' rfl) hlen (Nat.le_trans (show w.heap.size ≤ Wa.heap.size by omega) hw2.size)) ?_
      rintro e a3 W3 ⟨rfl, hk3, hi3⟩
      have hl3 := hk3.rest _ _ (by omega) hl2 rfl
      have hk4 := hk3.rest _ _ (Nat.le_refl _) hk2 rfl
      have hr := run_endRound (P := Try.prog) none hl3
      rw [hrec] at hr
      have hl3' := hl3
      rw [hrec] at hl3'
      refine ⟨_, _, hr, ?_⟩
      have hW4 := World.putObj_heap_same (o := .loop (rec .ready none)) (Array.getElem?_eq_some_iff.1 hl3).1
      refine ⟨rfl, ⟨hIp _ hi3 (by omega) hl3 rfl, ?_, (World.putObj_heap_other (by omega)).trans hk4⟩, (((hka.mono (by omega)).trans hw2).trans (hk3.mono (by omega))).trans (KR.putObj _ (by omega) (by omega) hl3 rfl)⟩
      rw [hrec] at hW4 ⊢
      exact hW4
    · rintro e W2 ⟨⟨v, rfl⟩, xs, hS, hi, hl, hk⟩
      exact ⟨none, _, by have := run_endLoop (P := Try.prog) hl (by rw [hrec]; simp); rw [hrec] at this; exact this, hdone _ xs _ (Nat.le_refl _) hS (hIp _ hi (by omega) hl rfl) ((World.putObj_heap_other (by omega)).trans hk)⟩
theorem info59 : (Try.prog.info? 59).map (fun i => (i.zero, i.size, i.bytes)) = some (some (.agg #[.bool false, .int .i64 0, .int .i64 0, .int .i64 0, .slice none 0 0]), 5, 56) := by kernel_rfl
theorem under43 : Try.prog.underlying 43 = some (.slice 59) := by kernel_rfl
theorem cells_new (W : World) (arr : Array Value) (t : TypeId) (j : Nat) (u : Value) (h : arr.toList[j]? = some u) : (W.alloc (.cells arr t)).cell? ((⟨W.heap.size, 0, none⟩ : Addr).add j) = some u := by
  have h7 : (⟨W.heap.size, 0, none⟩ : Addr).add j = ⟨W.heap.size, j, none⟩ := by
    unfold Addr.add
    split
    · subst j; rfl
    · simp
  rw [h7]
  have := World.alloc_heap_new W (.cells arr t)
  simp only [World.cell?, this]
  simpa using h
theorem own_sl {base : Nat} {W : World} {x : El} (h : x.own base W) : ∃ p k c, x.sl = .slice p k c := by
  rcases h.2 with ⟨h1, _⟩ | ⟨g, cap, cur, h1, _⟩
  · exact ⟨_, _, _, h1⟩
  · exact ⟨_, _, _, h1⟩
set_option maxRecDepth 100000 in
set_option maxHeartbeats 4000000 in
theorem appseq_in (n : Nat) (hn : 7 ≤ n) (gf : Nat) (lb : Array Value) (eg : ∀ args w, (callFunc gf args).run Try.prog w = .ok (.enter gf args) w) (N n0 : Nat) (hN : N ≤ 1048576) (S : List El → Prop) (w0 : World) (hn0 : n0 ≤ w0.heap.size) (hseq : SeqX (n - 1) n0 gf lb S N w0) :
    CallsIn Fence.wide n Try.prog 78 #[.slice none 0 0, .func (.func gf) #[] lb] w0 fun e W => ∃ v xs, e = .returned v ∧ S xs ∧ Below n0 w0 W ∧ W.ownsRow n0 59 5 v xs.length (xs.flatMap El.cells) ∧ (∀ x ∈ xs, x.own n0 W) ∧ NodupEl xs := by
  have h1n : 1 ≤ n := by omega
  refine callsIn_of_wp_marks Try.func78 rfl trivial ?_ rfl
  simp only [Try.ntmps78, List.size_toArray, List.length_cons, List.length_nil, Nat.reduceAdd, Nat.reduceSub, Array.replicate_succ, Array.replicate_zero, List.push_toArray, List.append_toArray, List.nil_append, List.cons_append]
  gi_wp2
  obtain ⟨w, hw⟩ : ∃ w, w0.alloc (.cells #[.slice none 0 0] 43) = w := ⟨_, rfl⟩
  have hwB : Boxed w w0.heap.size 43 (.slice none 0 0) := by rw [← hw]; exact Boxed.new w0 43 _
  have hws : w.heap.size = w0.heap.size + 1 := by rw [← hw]; simp
  have hwb : Below w0.heap.size w0 w := by rw [← hw]; exact (Below.refl _ _).alloc (Nat.le_refl _) _
  rw [hw]
  refine rangeX (S := S) (N := N) (n0 := n0) (lb := lb) (w' := w0) h1n rfl eg hseq hwb rfl (by omega) (JA w0.heap.size n0 w0) (JA.abides (by omega) (by omega) hn0)
    ⟨hwb.mono hn0, ⟨_, hwB, World.ownsRow_nil _ _ _ _⟩, (fun x hx => by cases hx), List.Pairwise.nil⟩
    (fun x a' W => ∃ q, w.heap.size ≤ q ∧ W.heap[q]? = some (.cells #[.bool x.sec, .int .i64 x.i, .int .i64 x.num, .int .i64 x.cnt, x.sl] 59 (0, 0)) ∧ a' = { tmps := #[.slice none 0 0, .func (.func gf) #[] lb, .pointer (some ⟨w0.heap.size, 0, none⟩), undef, .slice none 0 0, .pointer (some ⟨q, 0, none⟩), .func (.func gf) #[] lb, x.enc, undef, undef, undef, undef, undef], defers := [] })
    (fun x a' W l o o' ⟨q, h1, h2, h3⟩ hl ho => ⟨q, h1, (World.putObj_heap_other (fun e => by subst e; rw [hl] at h2; cases h2; cases ho)).trans h2, h3⟩) ?assign ?body ?done
  case assign =>
    intro l pre x W K hi hox hsz hK
    obtain ⟨sec, ix, num, cnt, sl, ints⟩ := x
    obtain ⟨p, k, c, rfl⟩ : ∃ p k c, sl = .slice p k c := own_sl hox
    dsimp only [El.enc] at hK ⊢
    gi_wp2
    exact hK _ _ (KR.alloc _ W _ (by omega)) (AbidesX.alloc (JA.abides (B' := w.heap.size) (by omega) (by omega) hn0) _ hi) (own_kept hox (fun k cs _ hc => (Below.heap_alloc W _ k (Array.getElem?_eq_some_iff.1 hc).1).trans hc)) ⟨W.heap.size, hsz, World.alloc_heap_new _ _, rfl⟩
  case body =>
    rintro l pre x a' W ⟨hb, ⟨v, hv, hr⟩, hown, hnd⟩ hox hap ⟨q, hq1, hq2, rfl⟩ hlen hsz
    obtain ⟨sec, ix, num, cnt, sl, ints⟩ := x
    obtain ⟨p, k, c, rfl⟩ : ∃ p k c, sl = .slice p k c := own_sl hox
    dsimp only [El.enc] at hq2 ⊢
    have d0 : W.cell? ⟨q, 0, none⟩ = some (.bool sec) := by simp [World.cell?, hq2]
    have d1 : W.cell? ⟨q, 1, none⟩ = some (.int .i64 ix) := by simp [World.cell?, hq2]
    have d2 : W.cell? ⟨q, 2, none⟩ = some (.int .i64 num) := by simp [World.cell?, hq2]
    have d3 : W.cell? ⟨q, 3, none⟩ = some (.int .i64 cnt) := by simp [World.cell?, hq2]
    have d4 : W.cell? ⟨q, 4, none⟩ = some (.slice p k c) := by simp [World.cell?, hq2]
    have hvc := hv.cell
    obtain ⟨i0, hi, hz0, hz1, hz2⟩ := info_parts info59
    gi_wp2_with (gi_at_builtin; refine wpListIn_append_own _ rfl _ _ 43 rfl n0 59 i0 _ 5 56 under43 hi hz0 hz1 hz2 rfl (by decide) _ _ _ rfl (hr.alloc _) ⟨W.heap.size, 0, none⟩ 1 1 [.bool sec, .int .i64 ix, .int .i64 num, .int .i64 cnt, .slice p k c] rfl rfl (fun j u hj => cells_new W _ _ j u hj) (by simp [Value.oneCell']) (by unfold maxLen; omega) (by omega) (by simp; omega) ?_; intro v' w1 hown' hgrow _; obtain ⟨g', cap', rfl⟩ := ownsRow_succ hown'; obtain ⟨hv1, hv2, hr2, hk2, hb2⟩ := hv.appended (by decide) hr (by omega) hn0 hown' hgrow; have hc1 := hv1.cell; have hf1 := hv1.frozen)
    have hW0 : w0.heap.size < W.heap.size := by omega
    have hkr : KR n0 w.heap.size W (w1.setCell ⟨w0.heap.size, 0, none⟩ (.slice (some ⟨g', 0, none⟩) (pre.length + 1) cap')) := by
      refine ((KR.alloc _ W _ (by omega)).trans (KR.row hgrow (by simp; omega) fun r e => ?_)).trans (KR.row (grownBy_setCell' w1 w0.heap.size _) (by have := hgrow.size; simp at this; omega) fun r e => by cases e; exact ⟨hn0, _, 43, hv1, .inr rfl⟩)
      have h2 := row_blk (hr.alloc (.cells #[.bool sec, .int .i64 ix, .int .i64 num, .int .i64 cnt, .slice p k c] 59)) e
      obtain ⟨cur, hc⟩ := h2.2.2
      exact ⟨h2.1, cur, 59, hc, .inl rfl⟩
    refine ⟨?_, ?_⟩
    · rw [← hws]; exact hkr
    · refine ⟨hb.trans hb2, ⟨_, hv2, ?_⟩, ?_, ?_⟩
      · rw [List.length_append, List.flatMap_append]
        exact hr2
      · intro x hx
        rcases List.mem_append.1 hx with hx | hx
        · exact own_kept (hown x hx) (fun k cs _ hc => hkr.cells k cs 3 hc (by decide) (by decide))
        · obtain rfl : x = _ := by simpa using hx
          exact own_kept hox (fun k cs _ hc => hkr.cells k cs 3 hc (by decide) (by decide))
      · refine List.pairwise_append.2 ⟨hnd, List.pairwise_singleton _ _, fun y hy x hx => ?_⟩
        obtain rfl : x = _ := by simpa using hx
        exact fun g hg => hap y hy g hg
  case done =>
    rintro D xs W hD hS ⟨hb, ⟨v, hv, hr⟩, hown, hnd⟩ hK
    have hvc := hv.cell
    gi_wp2
    refine ⟨by simp, .inl ⟨_, _, rfl, run_takeDeferred hK, ?_⟩⟩
    exact ⟨_, results_tmp rfl _ _ _, v, xs, rfl, hS, hb.trans (belowK_b (w := w) (by omega) W D _ _ hD hK rfl rfl), ownsRow_putObj hr _ hK rfl, fun x hx => own_kept (hown x hx) (fun k cs _ hc => (World.putObj_heap_other (fun e => by subst e; rw [hK] at hc; cases hc)).trans hc), hnd⟩
open Go Go.RowKit Go.Shelf Go.Sx
attribute [local go_sem] Oper.semAt_some
theorem saving_in (n : Nat) (sec : Bool) (num : Int) (A : Option Addr) (len cap : Nat) (w : World) : CallsIn Fence.wide n Try.prog 57 #[.bool sec, .int .i64 num, .slice A len cap] w fun e w' =>
    e = .returned (.func (.func 79) #[] #[.pointer (some ⟨w.heap.size, 0, none⟩), .pointer (some ⟨w.heap.size + 1 + 1, 0, none⟩), .pointer (some ⟨w.heap.size + 1, 0, none⟩)]) ∧ w' = ((w.alloc (.cells #[.bool sec] 4)).alloc (.cells #[.int .i64 num] 3)).alloc (.cells #[.slice A len cap] 38) := by
  refine callsIn_of_wp Try.func57 rfl trivial ?_ rfl
  simp only [Try.ntmps57, List.size_toArray, List.length_cons, List.length_nil, Nat.reduceAdd, Nat.reduceSub, Array.replicate_succ, Array.replicate_zero, List.push_toArray, List.append_toArray, List.nil_append, List.cons_append]
  gi_wp2
  go_ret
  exact ⟨rfl, rfl⟩
theorem saving_seq (n : Nat) (hn : 6 ≤ n) (k1 k2 k3 n0 : Nat) (sec : Bool) (num : Int) (b o len cap : Nat) (A : Option Addr) (hA : A = some ⟨b, o, none⟩ ∨ len = 0) (hlc : len ≤ cap) (hl : len ≤ 1048576) (ns : List Int) (hns : ns.length = len) (w : World) (hn0 : n0 ≤ w.heap.size)
    (h1 : Boxed w k1 4 (.bool sec)) (h2 : Boxed w k2 38 (.slice A len cap)) (h3 : Boxed w k3 3 (.int .i64 num)) (hc : ∀ (j : Nat) (u : Value), (ns.map (Value.int .i64))[j]? = some u → w.cell? ⟨b, o + j, none⟩ = some u) (hb0 : b < n0 ∨ ns = []) :
    SeqX n n0 79 #[.pointer (some ⟨k1, 0, none⟩), .pointer (some ⟨k2, 0, none⟩), .pointer (some ⟨k3, 0, none⟩)] (fun xs => xs.map El.key = keysOf sec num ns) (nCh len + 2) w := fun l J W hW hJ hY h0 =>
  saving1_in n hn l k1 k2 k3 n0 sec num b o len cap A hA hlc hl ns hns J W hJ (Nat.le_trans hn0 hW.size) hY ((hW.block k1 h1.lt).trans h1) ((hW.block k2 h2.lt).trans h2) ((hW.block k3 h3.lt).trans h3)
    (fun j u hj => (World.cell?_of_block (hW.block b (cell_lt (hc j u hj)))).trans (hc j u hj)) hb0 h0
theorem collect_in (n : Nat) (hn : 8 ≤ n) (gf : Nat) (lb : Array Value) (eg : ∀ args w, (callFunc gf args).run Try.prog w = .ok (.enter gf args) w) (N n0 : Nat) (hN : N ≤ 1048576) (S : List El → Prop) (w0 : World) (hn0 : n0 ≤ w0.heap.size) (hseq : SeqX (n - 1 - 1) n0 gf lb S N w0) :
    CallsIn Fence.wide n Try.prog 56 #[.func (.func gf) #[] lb] w0 fun e W => ∃ v xs, e = .returned v ∧ S xs ∧ Below n0 w0 W ∧ W.ownsRow n0 59 5 v xs.length (xs.flatMap El.cells) ∧ (∀ x ∈ xs, x.own n0 W) ∧ NodupEl xs := by
  have h1n : 1 ≤ n := by omega
  have hA := appseq_in (n - 1) (by omega) gf lb eg N n0 hN S w0 hn0 hseq
  refine callsIn_of_wp Try.func56 rfl trivial ?_ rfl
  simp only [Try.ntmps56, List.size_toArray, List.length_cons, List.length_nil, Nat.reduceAdd, Nat.reduceSub, Array.replicate_succ, Array.replicate_zero, List.push_toArray, List.append_toArray, List.nil_append, List.cons_append]
  gi_wp2_with (refine ⟨trivial, ?_⟩; gi_at_call 78; refine hA.mono ?_; rintro e W ⟨v, xs, rfl, h1, h2, h3, h4, h5⟩)
  go_ret
  exact ⟨v, xs, rfl, h1, h2, h3, h4, h5⟩
theorem load3 {w : World} {g : Nat} {x0 x1 x2 : Value} (h : w.heap[g]? = some (.cells #[x0, x1, x2] 24 (0, 0))) : (loadVar 24 ⟨g, 0, none⟩).run Try.prog w = .ok (.agg #[x0, x1, x2]) w := by
  have c0 : w.cell? ⟨g, 0, none⟩ = some x0 := by simp [World.cell?, h]
  have c1 : w.cell? ⟨g, 1, none⟩ = some x1 := by simp [World.cell?, h]
  have c2 : w.cell? ⟨g, 2, none⟩ = some x2 := by simp [World.cell?, h]
  simp [loadVar, loadCells, loadCellsFrom, Addr.add, c0, c1, c2]
theorem res_cell {P : Program} {fn : Func} {tmps : Array Value} {w : World} {x t : Tmp} {T : TypeId} {g : Nat} {u u2 : Value} (hr : fn.results = #[.cell x T, .tmp t]) (hx : tmps.getD x undef = .pointer (some ⟨g, 0, none⟩)) (ht : tmps.getD t undef = u2) (hl : (loadVar T ⟨g, 0, none⟩).run P w = .ok u w) : (results fn tmps).run P w = .ok (.tuple #[u, u2]) w := by
  show Sem.run P (fn.results.mapM (rGet tmps) >>= fun vs => pure (if h : vs.size = 1 then vs[0] else .tuple vs)) w = _
  rw [hr, show (#[ResultVar.cell x T, ResultVar.tmp t] : Array ResultVar) = [ResultVar.cell x T, ResultVar.tmp t].toArray from rfl, List.mapM_toArray]
  have hc : ((asAddr (tmps.getD x undef) >>= fun ad => loadVar T ad) : Sem Value).run P w = .ok u w := by rw [hx]; exact hl
  have h1 : (rGet tmps (.cell x T)).run P w = .ok u w := hc
  have h2 : (rGet tmps (.tmp t)).run P w = .ok u2 w := by rw [← ht]; rfl
  simp only [List.mapM_cons, List.mapM_nil, Sem.run_bind, Sem.run_map, Sem.run_pure, Result.andThen_ok, h1, h2]
  rfl
theorem later_w (w : World) (na ca nb cb : Int) (A B : Option Addr) (la lca lb lcb : Nat) : Calls Try.prog 50 #[.agg #[.int .i64 na, .int .i64 ca, .slice A la lca, .int .i64 nb, .int .i64 cb, .slice B lb lcb]] w fun e w' =>
    e = .returned (.tuple (cond (decide (na < nb)) #[.agg #[.int .i64 nb, .int .i64 cb, .slice B lb lcb], .bool true] #[.agg #[.int .i64 na, .int .i64 ca, .slice A la lca], .bool false])) ∧ Below w.heap.size w w' := by
  go_enter Try.func50, Try.ntmps50
  by_cases h : na < nb
  · rw [decide_eq_true h]
    go_wp2
    have hn := World.alloc_heap_new (w.alloc (.cells #[.int .i64 na, .int .i64 ca, .slice A la lca, .int .i64 nb, .int .i64 cb, .slice B lb lcb] 26)) (.cells #[.int .i64 nb, .int .i64 cb, .slice B lb lcb] 24)
    rw [World.size_alloc] at hn
    exact bodyPost_ret (res_cell rfl rfl rfl (load3 hn)) rfl ⟨rfl, ((Below.refl _ w).alloc (Nat.le_refl _) _).alloc (by simp) _⟩
  · rw [decide_eq_false h]
    go_wp2
    have hn := World.alloc_heap_new (w.alloc (.cells #[.int .i64 na, .int .i64 ca, .slice A la lca, .int .i64 nb, .int .i64 cb, .slice B lb lcb] 26)) (.cells #[.int .i64 na, .int .i64 ca, .slice A la lca] 24)
    rw [World.size_alloc] at hn
    exact bodyPost_ret (res_cell rfl rfl rfl (load3 hn)) rfl ⟨rfl, ((Below.refl _ w).alloc (Nat.le_refl _) _).alloc (by simp) _⟩
open Go Go.RowKit Go.Shelf Go.Sx
attribute [local go_sem] Oper.semAt_some
/-- What a save answers. -/
def SaveR (w0 : World) (okd okn : Bool) (na nb : Int) (ns : List Int) (e : Ending) (w' : World) : Prop :=
  Below w0.heap.size w0 w' ∧ ((cond (okd && decide (ns.length ≤ 1280) && okn) (decide ((if na < nb then nb else na) < 9999)) false = false ∧ e = .returned (.tuple #[.slice none 0 0, .bool false])) ∨
    (cond (okd && decide (ns.length ≤ 1280) && okn) (decide ((if na < nb then nb else na) < 9999)) false = true ∧ ∃ v xs, e = .returned (.tuple #[v, .bool true]) ∧ xs.map El.key = keysOf (!decide (na < nb)) ((if na < nb then nb else na) + 1) ns ∧ w'.ownsRow w0.heap.size 59 5 v xs.length (xs.flatMap El.cells) ∧ (∀ x ∈ xs, x.own w0.heap.size w') ∧ NodupEl xs))
theorem drop_wide {f : Nat} {args : Array Value} {w : World} {R : Ending → World → Prop} (n : Nat) (h : CallsIn Fence.wide n Try.prog f args w R) : Calls Try.prog f args w R := (callsIn_wide (n := n)).1 h
theorem res_two {P : Program} {fn : Func} {tmps : Array Value} {w : World} {x t : Tmp} {u u2 : Value} (hr : fn.results = #[.tmp x, .tmp t]) (hx : tmps.getD x undef = u) (ht : tmps.getD t undef = u2) : (results fn tmps).run P w = .ok (.tuple #[u, u2]) w := by
  show Sem.run P (fn.results.mapM (rGet tmps) >>= fun vs => pure (if h : vs.size = 1 then vs[0] else .tuple vs)) w = _
  rw [hr, show (#[ResultVar.tmp x, ResultVar.tmp t] : Array ResultVar) = [ResultVar.tmp x, ResultVar.tmp t].toArray from rfl, List.mapM_toArray]
  have h1 : (rGet tmps (.tmp x)).run P w = .ok u w := by rw [← hx]; rfl
  have h2 : (rGet tmps (.tmp t)).run P w = .ok u2 w := by rw [← ht]; rfl
  simp only [List.mapM_cons, List.mapM_nil, Sem.run_bind, Sem.run_map, Sem.run_pure, Result.andThen_ok, h1, h2]
  rfl
theorem saving_b (sec : Bool) (num : Int) (A : Option Addr) (len cap : Nat) (w : World) : Calls Try.prog 57 #[.bool sec, .int .i64 num, .slice A len cap] w fun e w' =>
    e = .returned (.func (.func 79) #[] #[.pointer (some ⟨w.heap.size, 0, none⟩), .pointer (some ⟨w.heap.size + 1 + 1, 0, none⟩), .pointer (some ⟨w.heap.size + 1, 0, none⟩)]) ∧ Below w.heap.size w w' ∧ Boxed w' w.heap.size 4 (.bool sec) ∧ Boxed w' (w.heap.size + 1 + 1) 38 (.slice A len cap) ∧ Boxed w' (w.heap.size + 1) 3 (.int .i64 num) := by
  refine (drop_wide 1 (saving_in 1 sec num A len cap w)).mono ?_
  rintro e w' ⟨rfl, rfl⟩
  refine ⟨rfl, (((Below.refl _ w).alloc (Nat.le_refl _) _).alloc (by simp) _).alloc (by simp; omega) _, ((Boxed.new w 4 _).alloc _).alloc _, ?_, ?_⟩
  · have := Boxed.new ((w.alloc (.cells #[.bool sec] 4)).alloc (.cells #[.int .i64 num] 3)) 38 (.slice A len cap)
    rw [World.size_alloc, World.size_alloc] at this
    exact this
  · have := Boxed.new (w.alloc (.cells #[.bool sec] 4)) 3 (.int .i64 num)
    rw [World.size_alloc] at this
    exact this.alloc _
theorem cell_of {w : World} {g t off : Nat} {cs : Array Value} {v : Value} (h : w.heap[g]? = some (.cells cs t (0, 0))) (hv : cs[off]? = some v) : w.cell? ⟨g, off, none⟩ = some v := by
  simp [World.cell?, h, hv]
theorem nCh_le {n : Nat} (h : n ≤ 1280) : nCh n + 2 ≤ 1048576 := by unfold nCh; omega
set_option maxRecDepth 100000 in
set_option maxHeartbeats 4000000 in
theorem save2_w (w0 : World) (na ca nb cb nn cc : Int) (sec2 : Bool) (A B C Ns : Option Addr) (la lca lb lcb lc lcc cap b o : Nat) (ns : List Int) (hA : Ns = some ⟨b, o, none⟩ ∨ ns.length = 0) (hlc : ns.length ≤ cap)
    (hc : ∀ (j : Nat) (u : Value), (ns.map (Value.int .i64))[j]? = some u → w0.cell? ⟨b, o + j, none⟩ = some u) (hb0 : b < w0.heap.size ∨ ns = []) (hn0 : 0 ≤ nn) (hl : ns.length ≤ 1280)
    (h20 : ∀ w, Below w0.heap.size w0 w → Calls Try.prog 20 #[.agg #[.int .i64 na, .int .i64 ca, .slice A la lca, .int .i64 nb, .int .i64 cb, .slice B lb lcb]] w fun e w' => e = .returned (.bool true) ∧ Below w.heap.size w w')
    (h55 : ∀ w, Below w0.heap.size w0 w → Calls Try.prog 55 #[.slice Ns ns.length cap] w fun e w' => e = .returned (.bool true) ∧ Below w.heap.size w w')
    (h50 : ∀ w, Calls Try.prog 50 #[.agg #[.int .i64 na, .int .i64 ca, .slice A la lca, .int .i64 nb, .int .i64 cb, .slice B lb lcb]] w fun e w' => e = .returned (.tuple #[.agg #[.int .i64 nn, .int .i64 cc, .slice C lc lcc], .bool sec2]) ∧ Below w.heap.size w w') (Q : Ending → World → Prop)
    (hQ1 : ¬ nn < 9999 → ∀ w, Below w0.heap.size w0 w → Q (.returned (.tuple #[.slice none 0 0, .bool false])) w)
    (hQ2 : nn < 9999 → ∀ v xs w', Below w0.heap.size w0 w' → xs.map El.key = keysOf (!sec2) (nn + 1) ns → w'.ownsRow w0.heap.size 59 5 v xs.length (xs.flatMap El.cells) → (∀ x ∈ xs, x.own w0.heap.size w') → NodupEl xs → Q (.returned (.tuple #[v, .bool true])) w') :
    Calls Try.prog 28 #[.agg #[.int .i64 na, .int .i64 ca, .slice A la lca, .int .i64 nb, .int .i64 cb, .slice B lb lcb], .slice Ns ns.length cap] w0 Q := by
  have H20 := Lib.hid h20
  have H55 := Lib.hid h55
  have H50 := Lib.hid h50
  have HC := Lib.hid hc
  have HQ1 := Lib.hid hQ1
  have HQ2 := Lib.hid hQ2
  clear h20 h55 h50 hc hQ1 hQ2
  have hfin : ∀ (sec : Bool) (v : Value) (k1 k2 k3 : Nat) (w5 : World), Below w0.heap.size w0 w5 → Boxed w5 k1 4 (.bool sec) → Boxed w5 k2 38 (.slice Ns ns.length cap) → Boxed w5 k3 3 (.int .i64 (nn + 1)) →
      Calls Try.prog 56 #[.func (.func 79) #[] #[.pointer (some ⟨k1, 0, none⟩), .pointer (some ⟨k2, 0, none⟩), .pointer (some ⟨k3, 0, none⟩)]] w5 fun e W => ∃ v xs, e = .returned v ∧ xs.map El.key = keysOf sec (nn + 1) ns ∧ Below w0.heap.size w5 W ∧ W.ownsRow w0.heap.size 59 5 v xs.length (xs.flatMap El.cells) ∧ (∀ x ∈ xs, x.own w0.heap.size W) ∧ NodupEl xs := fun sec v k1 k2 k3 w5 hb h1 h2 h3 =>
    drop_wide 8 (collect_in 8 (by omega) 79 _ (enters_of Try.func79 (by kernel_rfl) rfl) (nCh ns.length + 2) w0.heap.size (nCh_le hl) _ w5 hb.size (saving_seq 6 (by omega) k1 k2 k3 w0.heap.size sec (nn + 1) b o ns.length cap Ns hA hlc (by omega) ns rfl w5 hb.size h1 h2 h3
      (fun j u hj => by
        rcases hb0 with hb0 | hb0
        · exact (World.cell?_of_block (hb.block b hb0)).trans (HC.out j u hj)
        · subst hb0; simp at hj) hb0))
  have HF := Lib.hid hfin
  clear hfin
  by_cases hlt : nn < 9999
  · have hw : wrap64 (nn + 1) = nn + 1 := by unfold wrap64; omega
    go_enter Try.func28, Try.ntmps28
    go_wp2_with (first | (go_at_call 20; refine (H20.out _ ((Below.refl _ w0).alloc (Nat.le_refl _) _)).mono ?_; rintro e w1 ⟨rfl, b1⟩; have p1 := ((Below.refl _ w0).alloc (Nat.le_refl _) _).trans (b1.mono (by simp)); have hbx := (b1.block _ (by simp)).trans (World.alloc_heap_new _ _)) | (go_at_call 55; refine (H55.out _ p1).mono ?_; rintro e w2 ⟨rfl, b2⟩; have p2 := p1.trans (b2.mono (by have := p1.size; omega)); have hbx2 := (b2.block _ (Array.getElem?_eq_some_iff.1 hbx).1).trans hbx; have c0 := cell_of (off := 0) hbx2 rfl; have c1 := cell_of (off := 1) hbx2 rfl; have c2 := cell_of (off := 2) hbx2 rfl; have c3 := cell_of (off := 3) hbx2 rfl; have c4 := cell_of (off := 4) hbx2 rfl; have c5 := cell_of (off := 5) hbx2 rfl) | (go_at_call 50; refine (H50.out _).mono ?_; rintro e w3 ⟨rfl, b3⟩; have p3 := (p2.trans (b3.mono (by have := p2.size; omega))).alloc (by have := p2.size; have := b3.size; omega) (.cells #[.int .i64 nn, .int .i64 cc, .slice C lc lcc] 24)) | (go_at_call 57; refine (saving_b _ _ _ _ _ _).mono ?_; rintro e w5 ⟨rfl, b5, q1, q2, q3⟩; simp only [World.size_alloc] at q1 q2 q3; have p5 := p3.trans (b5.mono p3.size)) | (go_at_call 56; refine (HF.out _ undef _ _ _ _ p5 q1 q2 q3).mono ?_; rintro e w6 ⟨v, xs, rfl, g1, g2, g3, g4, g5⟩))
    exact (HQ2.out hlt v xs w6 (p5.trans g2) g1 g3 g4 g5)
  · go_enter Try.func28, Try.ntmps28
    go_wp2_with (first | (go_at_call 20; refine (H20.out _ ((Below.refl _ w0).alloc (Nat.le_refl _) _)).mono ?_; rintro e w1 ⟨rfl, b1⟩; have p1 := ((Below.refl _ w0).alloc (Nat.le_refl _) _).trans (b1.mono (by simp)); have hbx := (b1.block _ (by simp)).trans (World.alloc_heap_new _ _)) | (go_at_call 55; refine (H55.out _ p1).mono ?_; rintro e w2 ⟨rfl, b2⟩; have p2 := p1.trans (b2.mono (by have := p1.size; omega)); have hbx2 := (b2.block _ (Array.getElem?_eq_some_iff.1 hbx).1).trans hbx; have c0 := cell_of (off := 0) hbx2 rfl; have c1 := cell_of (off := 1) hbx2 rfl; have c2 := cell_of (off := 2) hbx2 rfl; have c3 := cell_of (off := 3) hbx2 rfl; have c4 := cell_of (off := 4) hbx2 rfl; have c5 := cell_of (off := 5) hbx2 rfl) | (go_at_call 50; refine (H50.out _).mono ?_; rintro e w3 ⟨rfl, b3⟩; have p3 := (p2.trans (b3.mono (by have := p2.size; omega))).alloc (by have := p2.size; have := b3.size; omega) (.cells #[.int .i64 nn, .int .i64 cc, .slice C lc lcc] 24)))
    exact (HQ1.out hlt _ p3)
set_option maxRecDepth 100000 in
set_option maxHeartbeats 4000000 in
theorem save_w (w0 : World) (na ca nb cb : Int) (A B Ns : Option Addr) (la lca lb lcb cap b o : Nat) (okd okn : Bool) (ns : List Int) (hA : Ns = some ⟨b, o, none⟩ ∨ ns.length = 0) (hlc : ns.length ≤ cap)
    (hc : ∀ (j : Nat) (u : Value), (ns.map (Value.int .i64))[j]? = some u → w0.cell? ⟨b, o + j, none⟩ = some u) (hb0 : b < w0.heap.size ∨ ns = []) (hnum : okd = true → 0 ≤ na ∧ 0 ≤ nb)
    (h20 : ∀ w, Below w0.heap.size w0 w → Calls Try.prog 20 #[.agg #[.int .i64 na, .int .i64 ca, .slice A la lca, .int .i64 nb, .int .i64 cb, .slice B lb lcb]] w fun e w' => e = .returned (.bool okd) ∧ Below w.heap.size w w')
    (h55 : ns.length ≤ 1280 → ∀ w, Below w0.heap.size w0 w → Calls Try.prog 55 #[.slice Ns ns.length cap] w fun e w' => e = .returned (.bool okn) ∧ Below w.heap.size w w') :
    Calls Try.prog 28 #[.agg #[.int .i64 na, .int .i64 ca, .slice A la lca, .int .i64 nb, .int .i64 cb, .slice B lb lcb], .slice Ns ns.length cap] w0 (SaveR w0 okd okn na nb ns) := by
  have fin : ∀ (q : Bool), cond (okd && decide (ns.length ≤ 1280) && okn) (decide ((if na < nb then nb else na) < 9999)) false = q → q = false → ∀ w, Below w0.heap.size w0 w → SaveR w0 okd okn na nb ns (.returned (.tuple #[.slice none 0 0, .bool false])) w := fun q h1 h2 w h3 => ⟨h3, .inl ⟨h1.trans h2, rfl⟩⟩
  have H20 := Lib.hid h20
  have H55 := Lib.hid h55
  have HC := Lib.hid hc
  have HF := Lib.hid fin
  clear h20 h55 hc fin
  cases okd with
  | false =>
    go_enter Try.func28, Try.ntmps28
    go_wp2_with (go_at_call 20; refine (H20.out _ ((Below.refl _ w0).alloc (Nat.le_refl _) _)).mono ?_; rintro e w1 ⟨rfl, b1⟩)
    refine bodyPost_ret (res_two rfl rfl rfl) rfl ?_; exact (HF.out _ rfl rfl w1 (((Below.refl _ w0).alloc (Nat.le_refl _) _).trans (b1.mono (by simp))))
  | true =>
    obtain ⟨hna, hnb⟩ := hnum rfl
    by_cases hl : ns.length ≤ 1280
    · have H55 := Lib.hid (H55.out hl)
      cases okn with
      | false =>
        go_enter Try.func28, Try.ntmps28
        go_wp2_with (first | (go_at_call 20; refine (H20.out _ ((Below.refl _ w0).alloc (Nat.le_refl _) _)).mono ?_; rintro e w1 ⟨rfl, b1⟩) | (go_at_call 55; refine (H55.out _ (((Below.refl _ w0).alloc (Nat.le_refl _) _).trans (b1.mono (by simp)))).mono ?_; rintro e w2 ⟨rfl, b2⟩))
        refine bodyPost_ret (res_two rfl rfl rfl) rfl (HF.out _ rfl (by rw [Bool.and_false]; rfl) w2 ((((Below.refl _ w0).alloc (Nat.le_refl _) _).trans (b1.mono (by simp))).trans (b2.mono ?_)))
        have := b1.size
        simp at this
        omega
      | true =>
        by_cases hlt : na < nb
        · refine save2_w w0 na ca nb cb nb cb true A B B Ns la lca lb lcb lb lcb cap b o ns hA hlc HC.out hb0 hnb hl H20.out H55.out (fun w => by have := later_w w na ca nb cb A B la lca lb lcb; rw [decide_eq_true hlt] at this; exact this) _ (fun h w hb => HF.out _ rfl (by rw [if_pos hlt, decide_eq_true hl, decide_eq_false h]; rfl) w hb) (fun h v xs w' h1 h2 h3 h4 h5 => ⟨h1, .inr ⟨by rw [if_pos hlt, decide_eq_true hl, decide_eq_true h]; rfl, v, xs, rfl, by rw [if_pos hlt, decide_eq_true hlt]; exact h2, h3, h4, h5⟩⟩)
        · refine save2_w w0 na ca nb cb na ca false A B A Ns la lca lb lcb la lca cap b o ns hA hlc HC.out hb0 hna hl H20.out H55.out (fun w => by have := later_w w na ca nb cb A B la lca lb lcb; rw [decide_eq_false hlt] at this; exact this) _ (fun h w hb => HF.out _ rfl (by rw [if_neg hlt, decide_eq_true hl, decide_eq_false h]; rfl) w hb) (fun h v xs w' h1 h2 h3 h4 h5 => ⟨h1, .inr ⟨by rw [if_neg hlt, decide_eq_true hl, decide_eq_true h]; rfl, v, xs, rfl, by rw [if_neg hlt, decide_eq_false hlt]; exact h2, h3, h4, h5⟩⟩)
    · go_enter Try.func28, Try.ntmps28
      go_wp2_with (go_at_call 20; refine (H20.out _ ((Below.refl _ w0).alloc (Nat.le_refl _) _)).mono ?_; rintro e w1 ⟨rfl, b1⟩)
      refine bodyPost_ret (res_two rfl rfl rfl) rfl ?_; exact (HF.out _ rfl (by rw [decide_eq_false hl]; rfl) w1 (((Below.refl _ w0).alloc (Nat.le_refl _) _).trans (b1.mono (by simp))))

open Go Go.RowKit Go.Shelf Go.Sx
/-! ### what the machine says of SlotOk and slotNums -/
noncomputable def nm2 (E : Env) (k j : Nat) (l : List Int) (n i : Int) : Option Bool := loopAt (noExt E) 55 .bool [true, false, true, false] [] [] k [] j (mkS 15 [(5, .c (.sl 3 tI l)), (6, .c (.int .i64 n)), (7, .c (.int .i64 i))]) []
noncomputable def so4 (E : Env) (k j : Nat) (l : List (List Int)) (n i : Int) : Option Bool := loopAt (noExt E) 47 .bool [true, true, false, true, false] [] [] k [] j (mkS 37 [(22, .c (.sl 38 (.sl 3 tI) l)), (23, .c (.int .i64 n)), (24, .c (.int .i64 i))]) []
noncomputable def wi (E : Env) (k : Nat) (a b c : Int) : Option Bool := evalT (noExt E) k 75 .bool [.c (.int .i64 a), .c (.int .i64 b), .c (.int .i64 c)] []
noncomputable def nu (E : Env) (k : Nat) (a : Int) : Option Bool := evalT (noExt E) k 77 .bool [.c (.int .i64 a)] []
noncomputable def nm (E : Env) (k : Nat) (l : List Int) : Option Bool := evalT (noExt E) k 55 .bool [.c (.sl 3 tI l)] []
noncomputable def so (E : Env) (k : Nat) (a b : Int) (l : List (List Int)) : Option Bool := evalT (noExt E) k 47 .bool [.v (.agg [.int .i64 a, .int .i64 b, .sl 38 (.sl 3 tI) l])] []
noncomputable def dk (E : Env) (k : Nat) (a b : Int) (l : List (List Int)) (a' b' : Int) (l' : List (List Int)) : Option Bool := evalT (noExt E) k 20 .bool [.v (.agg [.int .i64 a, .int .i64 b, .sl 38 (.sl 3 tI) l, .int .i64 a', .int .i64 b', .sl 38 (.sl 3 tI) l'])] []
structure Rounds (E : Env) : Prop where
  wi : ∀ k a b c, wi E (k + 1) a b c = cond (decide (a ≥ b)) (some (decide (a ≤ c))) (some false)
  nu : ∀ k a, nu E (k + 1) a = (YtiabhdebjajgiaaSave.wi E k a (-1) 9999).bind fun x0 => some x0
  nm : ∀ k l, nm E (k + 1) l = nm2 E k k l (l.length : Int) 0
  nm2 : ∀ k j l n i, nm2 E k (j + 1) l n i = cond (decide (i < n)) (cond (decide (0 ≤ i)) (cond (decide (i < (l.length : Int))) ((YtiabhdebjajgiaaSave.nu E k (l.getD i.toNat (0 : Int))).bind fun x0 => cond (!x0) (some false) (nm2 E k j l n (IntKind.i64.wrap (i + 1)))) none) none) (some true)
  so : ∀ k a b l, so E (k + 1) a b l = (YtiabhdebjajgiaaSave.wi E k a 0 9999).bind fun x0 => cond (!x0) (some false) ((YtiabhdebjajgiaaSave.wi E k b 0 1280).bind fun x1 => cond (!x1) (some false) (cond ((l.length : Int) != 160) (some false) (so4 E k k l (l.length : Int) 0)))
  so4 : ∀ k j l n i, so4 E k (j + 1) l n i = cond (decide (i < n)) (cond (decide (0 ≤ i)) (cond (decide (i < (l.length : Int))) (cond (decide (((l.getD i.toNat ([] : List Int)).length : Int) > 8)) (some false) ((YtiabhdebjajgiaaSave.nm E k (l.getD i.toNat ([] : List Int))).bind fun x0 => cond (!x0) (some false) (so4 E k j l n (IntKind.i64.wrap (i + 1))))) none) none) (some true)
  dk : ∀ k a b l a' b' l', dk E (k + 1) a b l a' b' l' = (YtiabhdebjajgiaaSave.so E k a b l).bind fun x0 => cond x0 ((YtiabhdebjajgiaaSave.so E k a' b' l').bind fun x1 => cond x1 (cond (a != a') (some true) (some (a == 0))) (some false)) (some false)
open Go Go.RowKit Go.Shelf Go.Sx Go.Pl
section
variable {E : Env}
theorem wi_ev (RS : Rounds E) (a b c : Int) : Ev (fun k => wi E k a b c) (inN a b c) := Ev.step (fun k => RS.wi k a b c) (by unfold inN; exact Ev.cond (fun h => (Ev.now _).to (by rw [h]; rfl)) fun h => (Ev.now _).to (by rw [h]; rfl))
theorem nu_ev (RS : Rounds E) (a : Int) : Ev (fun k => nu E k a) (inN a (-1) 9999) := Ev.step (fun k => RS.nu k a) (Ev.bind (wi_ev RS a (-1) 9999) (Ev.now _))
theorem nm_ev (RS : Rounds E) (l : List Int) (hl : l.length ≤ 1048576) : Ev (fun k => nm E k l) (numsF l) := by
  refine Ev.step (fun k => RS.nm k l) ?_
  have key : ∀ (d i : Nat), i + d = l.length → EvL (fun k j => nm2 E k j l (l.length : Int) (i : Int)) ((l.drop i).all fun x => inN x (-1) 9999) := by
    intro d
    induction d with
    | zero =>
      intro i hi
      refine EvL.step (M := fun _ _ => some true) (fun k j => ?_) ((EvL.now _).to ?_)
      · rw [RS.nm2, decide_eq_false (by omega)]; rfl
      · rw [List.drop_of_length_le (by omega)]; rfl
    | succ d ih =>
      intro i hi
      have c1 : (i : Int) < (l.length : Int) := by omega
      have c2 : (0 : Int) ≤ (i : Int) := by omega
      have hd : l.drop i = l.getD i (0 : Int) :: l.drop (i + 1) := getD_drop l _ i (by omega)
      have he : ∀ k j, nm2 E k (j + 1) l (l.length : Int) (i : Int) = (nu E k (l.getD i (0 : Int))).bind fun x0 => cond (!x0) (some false) (nm2 E k j l (l.length : Int) ((i + 1 : Nat) : Int)) := fun k j => by
        rw [RS.nm2, decide_eq_true c1, decide_eq_true c2, Int.toNat_natCast, w64n i (by omega)]; rfl
      refine EvL.step he (EvL.bind (nu_ev RS _) ?_)
      rw [hd, List.all_cons]
      refine EvL.cond (fun h => (EvL.now _).to ?_) (fun h => (ih (i + 1) (by omega)).to ?_)
      · rw [Bool.not_eq_true'] at h; rw [h]; rfl
      · rw [Bool.not_eq_false'] at h; rw [h]; rfl
  exact EvL.ev (L := fun k j => nm2 E k j l (l.length : Int) 0) (key l.length 0 (by omega))
theorem so_ev (RS : Rounds E) (a b : Int) (l : List (List Int)) : Ev (fun k => so E k a b l) (slotF a b l) := by
  refine Ev.step (fun k => RS.so k a b l) (Ev.bind (wi_ev RS a 0 9999) ?_)
  unfold slotF
  refine Ev.cond (fun h => (Ev.now _).to ?_) (fun h => ?_)
  · rw [Bool.not_eq_true'] at h; rw [h]; rfl
  rw [Bool.not_eq_false'] at h; rw [h, Bool.true_and]
  refine Ev.bind (wi_ev RS b 0 1280) ?_
  refine Ev.cond (fun h => (Ev.now _).to ?_) (fun h => ?_)
  · rw [Bool.not_eq_true'] at h; rw [h]; rfl
  rw [Bool.not_eq_false'] at h; rw [h, Bool.true_and]
  by_cases h160 : l.length = 160
  · have e1 : ((l.length : Int) != 160) = false := by rw [h160]; rfl
    rw [e1, decide_eq_true h160, Bool.true_and]
    have key : ∀ (d i : Nat), i + d = l.length → EvL (fun k j => so4 E k j l (l.length : Int) (i : Int)) ((l.drop i).all secF) := by
      intro d
      induction d with
      | zero =>
        intro i hi
        refine EvL.step (M := fun _ _ => some true) (fun k j => ?_) ((EvL.now _).to ?_)
        · rw [RS.so4, decide_eq_false (by omega)]; rfl
        · rw [List.drop_of_length_le (by omega)]; rfl
      | succ d ih =>
        intro i hi
        have c1 : (i : Int) < (l.length : Int) := by omega
        have c2 : (0 : Int) ≤ (i : Int) := by omega
        have hd : l.drop i = l.getD i ([] : List Int) :: l.drop (i + 1) := getD_drop l _ i (by omega)
        have he : ∀ k j, so4 E k (j + 1) l (l.length : Int) (i : Int) = cond (decide (((l.getD i ([] : List Int)).length : Int) > 8)) (some false) ((nm E k (l.getD i ([] : List Int))).bind fun x0 => cond (!x0) (some false) (so4 E k j l (l.length : Int) ((i + 1 : Nat) : Int))) := fun k j => by
          rw [RS.so4, decide_eq_true c1, decide_eq_true c2, Int.toNat_natCast, w64n i (by omega)]; rfl
        refine EvL.step he ?_
        rw [hd, List.all_cons]
        unfold secF
        refine EvL.cond (fun h => (EvL.now _).to ?_) (fun h => ?_)
        · rw [h]; rfl
        have h8 := of_decide_eq_false h
        rw [h, Bool.not_false, Bool.true_and]
        refine EvL.bind (nm_ev RS _ (by omega)) ?_
        refine EvL.cond (fun h => (EvL.now _).to ?_) (fun h => (ih (i + 1) (by omega)).to ?_)
        · rw [Bool.not_eq_true'] at h; rw [h]; rfl
        · rw [Bool.not_eq_false'] at h; rw [h]; rfl
    exact EvL.ev (L := fun k j => so4 E k j l (l.length : Int) 0) (key l.length 0 (by omega))
  · have e1 : ((l.length : Int) != 160) = true := bne_iff_ne.2 (by omega)
    rw [e1, decide_eq_false h160]
    exact Ev.now _
theorem dk_ev (RS : Rounds E) (a b : Int) (l : List (List Int)) (a' b' : Int) (l' : List (List Int)) : Ev (fun k => dk E k a b l a' b' l') (diskF a b l a' b' l') := by
  refine Ev.step (fun k => RS.dk k a b l a' b' l') (Ev.bind (so_ev RS a b l) ?_)
  unfold diskF
  refine Ev.cond (fun h => ?_) (fun h => (Ev.now _).to (by rw [h]; rfl))
  rw [h, Bool.true_and]
  refine Ev.bind (so_ev RS a' b' l') (Ev.cond (fun h => ?_) (fun h => (Ev.now _).to (by rw [h]; rfl)))
  rw [h, Bool.true_and]
  exact Ev.cond (fun h => (Ev.now _).to (by rw [h]; rfl)) (fun h => (Ev.now _).to (by rw [h]; rfl))
end
open Go Go.RowKit Go.Shelf Go.Sx Go.Pl
theorem below_all {w w' : World} (h : Below 0 w w') (hh : ∀ b, b < w.heap.size → w'.heap[b]? = w.heap[b]?) : Below w.heap.size w w' := ⟨h.os, h.tape, h.output, h.size, hh⟩
theorem relOf {w : World} {Fz : Nat → Prop} (hlt : ∀ b, Fz b → b < w.heap.size) : RelM w (Handed [] fun _ => none) Fz (fun i => i < ([] : List (Option Go.Sx.Obj)).length) (hpf []) (fun _ => none) Fz w :=
  ⟨Below.refl 0 w, fun _ _ _ => rfl, fun _ h => h, hlt, fun _ h => .inl h, fun _ _ h => by (cases h), fun id o h => by (rw [hpf_nil] at h; cases h), fun id b h => by (obtain ⟨o, v, h, _⟩ := h; rw [hpf_nil] at h; cases h), fun id id' b h => by (obtain ⟨o, v, h, _⟩ := h; rw [hpf_nil] at h; cases h)⟩
theorem not_handed {ρ : Nat → Option Value} {b : Nat} : ¬ Handed [] ρ b := by
  rintro ⟨id, o, v, h, _⟩
  rw [hpf_nil] at h; cases h
theorem bool_back {w w' : World} {ρ : Nat → Option Value} {Fz : Nat → Prop} {q : Bool} {v : Value} (h : Back w Fz [] ρ [] [.bool] .bool q v w') : v = .bool q ∧ (∀ b, b < w.heap.size → w'.heap[b]? = w.heap[b]?) ∧ Below 0 w w' := by
  obtain ⟨⟨cs, bs, us, Fz', bl, ⟨vs, hp, rfl⟩, hbo, hus, hk, _⟩, env, frame⟩ := h
  refine ⟨?_, fun b hb => frame b hb not_handed, env⟩
  obtain rfl : bs = [] := hbo
  obtain rfl : us = [] := by cases us with
    | nil => rfl
    | cons _ _ => exact hus.elim
  obtain ⟨hk, _⟩ := hk
  have hk : cs ++ ([] ++ []) = [Value.bool q] := hk
  cases vs with
  | nil => exact hp.elim
  | cons v1 vs =>
    obtain ⟨c1, c2, rfl, hl, ho, hp⟩ := hp
    cases vs with
    | cons _ _ => exact hp.elim
    | nil =>
      obtain rfl : c2 = [] := hp
      rcases ho with ⟨hag, _⟩ | ⟨_, rfl⟩
      · cases hag
      · show v1 = _
        simpa using hk
section
variable {E : Env}
theorem dk_call (hP : E.P = Try.prog) (EOK : EnvOk E) (FOK : FnsOk E) (hmix : E.P.follows .mixedOrders = true) (RS : Rounds E) (hr : resTys (noExt E) 20 = some [.bool]) {w : World} {Fz : Nat → Prop} (hlt : ∀ b, Fz b → b < w.heap.size) {na ca nb cb : Int} {da db : List (List Int)} {v1 v2 : Value}
    (h1 : KI w Fz (.sl 38 (.sl 3 tI)) da [v1]) (h2 : KI w Fz (.sl 38 (.sl 3 tI)) db [v2]) : Calls Try.prog 20 #[.agg #[.int .i64 na, .int .i64 ca, v1, .int .i64 nb, .int .i64 cb, v2]] w fun e w' => e = .returned (.bool (diskF na ca da nb cb db)) ∧ Below w.heap.size w w' := by
  obtain ⟨K, hK⟩ := dk_ev RS na ca da nb cb db
  have sound := evalT_ok (E := noExt E) EOK FOK hmix (extOk fun _ => rfl) K 20 .bool _ [] _ (hK K (Nat.le_refl _)) [.bool] hr w (fun _ => none) Fz #[.agg #[.int .i64 na, .int .i64 ca, v1, .int .i64 nb, .int .i64 cb, v2]] (relOf hlt) ⟨⟨_, rfl, rfl, rfl, h1, rfl, rfl, h2, trivial⟩, trivial⟩
  have hrs : rsOf (noExt E) 20 [.v (.agg [.int .i64 na, .int .i64 ca, .sl 38 (.sl 3 tI) da, .int .i64 nb, .int .i64 cb, .sl 38 (.sl 3 tI) db])] = [] := by unfold rsOf; cases Nat.beq ((noExt E).mode 20) 1 <;> rfl
  rw [hrs] at sound
  rw [← hP]
  refine sound.mono ?_
  rintro e w' ⟨u, rfl, hb⟩
  obtain ⟨rfl, h3, h4⟩ := bool_back hb
  exact ⟨rfl, below_all h4 h3⟩
theorem nm_call (hP : E.P = Try.prog) (EOK : EnvOk E) (FOK : FnsOk E) (hmix : E.P.follows .mixedOrders = true) (RS : Rounds E) (hr : resTys (noExt E) 55 = some [.bool]) {w : World} {Fz : Nat → Prop} (hlt : ∀ b, Fz b → b < w.heap.size) {ns : List Int} (hn : ns.length ≤ 1280) {v : Value}
    (h1 : KI w Fz (.sl 3 tI) ns [v]) : Calls Try.prog 55 #[v] w fun e w' => e = .returned (.bool (numsF ns)) ∧ Below w.heap.size w w' := by
  obtain ⟨K, hK⟩ := nm_ev RS ns (by omega)
  have sound := evalT_ok (E := noExt E) EOK FOK hmix (extOk fun _ => rfl) K 55 .bool _ [] _ (hK K (Nat.le_refl _)) [.bool] hr w (fun _ => none) Fz #[v] (relOf hlt) ⟨h1, trivial⟩
  have hrs : rsOf (noExt E) 55 [.c (.sl 3 tI ns)] = [] := by unfold rsOf; cases Nat.beq ((noExt E).mode 55) 1 <;> rfl
  rw [hrs] at sound
  rw [← hP]
  refine sound.mono ?_
  rintro e w' ⟨u, rfl, hb⟩
  obtain ⟨rfl, h3, h4⟩ := bool_back hb
  exact ⟨rfl, below_all h4 h3⟩
end
/-! ### what is handed back -/
theorem blk_own (v : Value) (h : ∃ p k c, v = .slice p k c) : blkV v = v.ownBlock := by
  obtain ⟨p, k, c, rfl⟩ := h
  cases p <;> rfl
theorem flat_len (xs : List El) : (xs.flatMap El.cells).length = xs.length * 5 := by
  induction xs with
  | nil => rfl
  | cons x xs ih => rw [List.flatMap_cons, List.length_append, ih]; simp [El.cells]; omega
theorem flat_at : ∀ (xs : List El) (i : Nat) (hi : i < xs.length), ((xs.flatMap El.cells).drop (i * 5)).take 5 = xs[i].cells
  | x :: xs, 0, _ => by simp [El.cells]
  | x :: xs, i + 1, hi => by
    have := flat_at xs i (by simpa using hi)
    rw [List.flatMap_cons, show (i + 1) * 5 = 5 + i * 5 by omega, ← List.drop_drop, List.drop_append_of_le_length (by simp [El.cells])]
    simpa [El.cells] using this
theorem el_DO {w : World} {n0 : Nat} {x : El} (h : x.own n0 w) : DO w (tStepF 3) x.key x.cells (blkV x.sl).toList := by
  refine ⟨[.bool x.sec], [.int .i64 x.i, .int .i64 x.num, .int .i64 x.cnt, x.sl], [], (blkV x.sl).toList, rfl, rfl, ⟨rfl, rfl⟩, [.int .i64 x.i], [.int .i64 x.num, .int .i64 x.cnt, x.sl], [], (blkV x.sl).toList, rfl, rfl, ⟨rfl, rfl⟩,
    [.int .i64 x.num], [.int .i64 x.cnt, x.sl], [], (blkV x.sl).toList, rfl, rfl, ⟨rfl, rfl⟩, [.int .i64 x.cnt], [x.sl], [], (blkV x.sl).toList, rfl, rfl, ⟨rfl, rfl⟩, ?_⟩
  have h' : w.ownsRow 0 3 1 x.sl x.ints.length (x.ints.map (Value.int .i64)) := own_base (Nat.zero_le _) h
  have hrows : Go.Sx.Rows w (fun _ => False) tI (x.ints : List Int) (x.ints.map (Value.int .i64)) := ⟨by show (x.ints.map (Value.int .i64)).length = x.ints.length * 1; simp, fun i hi => by
    have hi' : i < x.ints.length := hi
    show List.take 1 (List.drop (i * 1) (x.ints.map (Value.int .i64))) = [Value.int .i64 x.ints[i]]
    rw [Nat.mul_one, List.drop_eq_getElem_cons (by simpa using hi')]
    simp⟩
  exact DO_own (Fz := fun _ => False) (t := tI) (xs := (x.ints : List Int)) rfl h' hrows
theorem row_DO {w : World} {n0 : Nat} {v : Value} {xs : List El} (hr : w.ownsRow n0 59 5 v xs.length (xs.flatMap El.cells)) (ho : ∀ x ∈ xs, x.own n0 w) : DO w (.sl 59 (tStepF 3)) (xs.map El.key) [v] ((blkV v).toList ++ (xs.map fun x => (blkV x.sl).toList).flatten) := by
  have hlen : (xs.map El.key : List StepF).length = xs.length := List.length_map ..
  refine ⟨v, xs.flatMap El.cells, xs.map fun x => (blkV x.sl).toList, rfl, ?_, ?_, ?_, fun i hi => ?_, rfl⟩
  · show w.ownsRow 0 59 5 v (xs.map El.key : List StepF).length (xs.flatMap El.cells)
    rw [hlen]
    refine ⟨hr.1, ?_⟩
    rcases hr.2 with h2 | ⟨g, cap, cur, h1, h2, h3, h4⟩
    · exact .inl h2
    · exact .inr ⟨g, cap, cur, h1, Nat.zero_le _, h3, h4⟩
  · show (xs.flatMap El.cells).length = (xs.map El.key : List StepF).length * 5
    rw [hlen]; exact flat_len xs
  · show (xs.map fun x => (blkV x.sl).toList).length = (xs.map El.key : List StepF).length
    simp
  · have hi' : i < xs.length := by rw [← hlen]; exact hi
    have e : (xs.map El.key : List StepF)[i]'(by rw [hlen]; exact hi') = xs[i].key := List.getElem_map ..
    show DO w (tStepF 3) ((xs.map El.key : List StepF)[i]'(by rw [hlen]; exact hi')) (List.take 5 (List.drop (i * 5) _)) _
    rw [e, flat_at xs i hi', List.getD_eq_getElem?_getD, List.getElem?_map, List.getElem?_eq_getElem hi']
    exact el_DO (ho _ (List.getElem_mem hi'))
theorem row_blocks {w : World} {n0 : Nat} {v : Value} {xs : List El} (hr : w.ownsRow n0 59 5 v xs.length (xs.flatMap El.cells)) (ho : ∀ x ∈ xs, x.own n0 w) : ∀ b ∈ (blkV v).toList ++ (xs.map fun x => (blkV x.sl).toList).flatten, n0 ≤ b ∧ b < w.heap.size := by
  have hsv : ∃ p k c, v = .slice p k c := by
    rcases hr.2 with ⟨h1, _⟩ | ⟨g, cap, cur, h1, _⟩
    · exact ⟨_, _, _, h1⟩
    · exact ⟨_, _, _, h1⟩
  intro b hb
  rcases List.mem_append.1 hb with hb | hb
  · rw [Option.mem_toList, blk_own v hsv] at hb
    have := row_blk hr hb
    exact ⟨this.1, this.2.1⟩
  · obtain ⟨l, hl, hb⟩ := List.mem_flatten.1 hb
    obtain ⟨x, hx, rfl⟩ := List.mem_map.1 hl
    rw [Option.mem_toList, blk_own _ (own_sl (ho x hx))] at hb
    have := own_blk (ho x hx) hb
    exact ⟨this.1, this.2.1⟩
theorem row_nodup {w : World} {n0 : Nat} {v : Value} {xs : List El} (hr : w.ownsRow n0 59 5 v xs.length (xs.flatMap El.cells)) (ho : ∀ x ∈ xs, x.own n0 w) (hn : NodupEl xs) : ((blkV v).toList ++ (xs.map fun x => (blkV x.sl).toList).flatten).Nodup := by
  have hsv : ∃ p k c, v = .slice p k c := by
    rcases hr.2 with ⟨h1, _⟩ | ⟨g, cap, cur, h1, _⟩
    · exact ⟨_, _, _, h1⟩
    · exact ⟨_, _, _, h1⟩
  refine List.nodup_append.2 ⟨?_, ?_, ?_⟩
  · cases blkV v <;> simp
  · clear hr
    induction xs with
    | nil => exact List.nodup_nil
    | cons x xs ih =>
      rw [List.map_cons, List.flatten_cons]
      have hn' := List.pairwise_cons.1 hn
      refine List.nodup_append.2 ⟨by cases blkV x.sl <;> simp, ih (fun y hy => ho y (List.mem_cons_of_mem _ hy)) hn'.2, ?_⟩
      intro b hb c hc e
      subst e
      obtain ⟨l, hl, hc⟩ := List.mem_flatten.1 hc
      obtain ⟨y, hy, rfl⟩ := List.mem_map.1 hl
      rw [Option.mem_toList, blk_own _ (own_sl (ho y (List.mem_cons_of_mem _ hy)))] at hc
      rw [Option.mem_toList, blk_own _ (own_sl (ho x List.mem_cons_self))] at hb
      exact hn'.1 y hy b hc hb
  · intro b hb c hc e
    subst e
    rw [Option.mem_toList, blk_own v hsv] at hb
    obtain ⟨l, hl, hc⟩ := List.mem_flatten.1 hc
    obtain ⟨y, hy, rfl⟩ := List.mem_map.1 hl
    rw [Option.mem_toList, blk_own _ (own_sl (ho y hy))] at hc
    obtain ⟨cur, h1⟩ := (row_blk hr hb).2.2
    obtain ⟨cur', h2⟩ := (own_blk (ho y hy) hc).2.2
    rw [h1] at h2
    cases h2
open Go Go.RowKit Go.Shelf Go.Sx Go.Pl
section
variable {E : Env}
theorem out_back {w0 w : World} {ρ : Nat → Option Value} {Fz0 : Nat → Prop} (hlt : ∀ b, Fz0 b → b < w0.heap.size) (hB : Below w0.heap.size w0 w) {l : List StepF} {q : Bool} {v : Value} {bl : List Nat} (hd : DO w (.sl 59 (tStepF 3)) l [v] bl) (hn : bl.Nodup) (hb : ∀ b ∈ bl, w0.heap.size ≤ b ∧ b < w.heap.size) :
    Back w0 Fz0 [] ρ [] [.dw 59 (tStepF 3), .bool] (tSaveF 3 59) (l, q) (.tuple #[v, .bool q]) w := by
  refine ⟨⟨[v, .bool q], [], [], Fz0, bl, ⟨[v, .bool q], ⟨[v], [.bool q], rfl, rfl, .inr ⟨rfl, rfl⟩, [.bool q], [], rfl, rfl, .inr ⟨rfl, rfl⟩, rfl⟩, rfl⟩, rfl, trivial, ?_, hn, (fun b h => ?_), (fun b h => h), (fun b h => ⟨Nat.lt_of_lt_of_le (hlt b h) hB.size, .inl h⟩), (fun i ty cs g h => by cases h)⟩, hB.mono (Nat.zero_le _), fun b h _ => hB.block b h⟩
  · exact ⟨[v], [.bool q], bl, [], rfl, (List.append_nil _).symm, ⟨hd, hn⟩, rfl, rfl⟩
  · have := hb b h
    exact ⟨fun hf => by have := hlt b hf; omega, this.2, .inr this.1⟩
theorem back_to {w0 w : World} {ρ : Nat → Option Value} {Fz0 : Nat → Prop} {ts : List Ty} {τ : Ty} {x y : el τ} {v : Value} (h : x = y) (hb : Back w0 Fz0 [] ρ [] ts τ y v w) : Back w0 Fz0 [] ρ [] ts τ x v w := h ▸ hb
theorem save_done (hP : E.P = Try.prog) (EOK : EnvOk E) (FOK : FnsOk E) (hmix : E.P.follows .mixedOrders = true) (RS : Rounds E) (hr20 : resTys (noExt E) 20 = some [.bool]) (hr55 : resTys (noExt E) 55 = some [.bool]) (hres : resTys E 28 = some [.dw 59 (tStepF 3), .bool]) : SaveDone E 28 3 38 59 := by
  intro na ca nb cb da db ns w0 ρ Fz0 v1 v2 v3 R hk1 hk2 hk3 ts hts
  rw [hres] at hts
  cases hts
  have hlt := R.fzlt
  obtain ⟨A, lca, hv, _⟩ := id hk1
  obtain rfl : v1 = .slice A da.length lca := (List.cons.inj hv).1
  obtain ⟨B, lcb, hv, _⟩ := id hk2
  obtain rfl : v2 = .slice B db.length lcb := (List.cons.inj hv).1
  obtain ⟨Ns, cap, hv, hcap, hel⟩ := id hk3
  obtain rfl : v3 = .slice Ns ns.length cap := (List.cons.inj hv).1
  have hns : ∃ b o, (Ns = some ⟨b, o, none⟩ ∨ ns.length = 0) ∧ (b < w0.heap.size ∨ ns = []) ∧ ∀ (j : Nat) (u : Value), (ns.map (Value.int .i64))[j]? = some u → w0.cell? ⟨b, o + j, none⟩ = some u := by
    cases ns with
    | nil => exact ⟨0, 0, .inr rfl, .inr rfl, fun j u hj => by simp at hj⟩
    | cons n ns =>
      obtain ⟨g, o, row, hA, hg, _, _⟩ := hel 0 (Nat.succ_pos _)
      refine ⟨g, o, .inl hA, .inl (hlt g hg), fun j u hj => ?_⟩
      have hj' : j < (n :: ns).length := by
        have := (List.getElem?_eq_some_iff.1 hj).1
        simpa using this
      obtain ⟨g', o', row', hA', hg', hc, hk⟩ := hel j hj'
      rw [hA] at hA'
      cases hA'
      have hk : row' = [Value.int .i64 (n :: ns)[j]] := hk
      have hu : u = Value.int .i64 (n :: ns)[j] := by
        rw [List.getElem?_map, List.getElem?_eq_getElem hj'] at hj
        exact (Option.some.inj hj).symm
      have h9 := hc 0 u (by rw [hk, hu]; rfl)
      have h9 : w0.cell? ⟨g, o + j * 1 + 0, none⟩ = some u := h9
      rwa [Nat.mul_one] at h9
  obtain ⟨b, o, hA, hb0, hc⟩ := hns
  have hnum : diskF na ca da nb cb db = true → 0 ≤ na ∧ 0 ≤ nb := fun h => by
    unfold diskF slotF inN at h
    simp only [Bool.and_eq_true, decide_eq_true_eq] at h
    omega
  have hmono : ∀ {t : Ty} {x : el t} {cs : List Value} {w : World}, Below w0.heap.size w0 w → KI w0 Fz0 t x cs → KI w Fz0 t x cs := fun hb hk => KI_mono (fun _ h => h) (fun c hc => hb.block c (hlt c hc)) hk
  have hw := save_w w0 na ca nb cb A B Ns da.length lca db.length lcb cap b o (diskF na ca da nb cb db) (numsF ns) ns hA hcap hc hb0 hnum
    (fun w hb => dk_call hP EOK FOK hmix RS hr20 (Fz := Fz0) (fun c hc => Nat.lt_of_lt_of_le (hlt c hc) hb.size) (hmono hb hk1) (hmono hb hk2))
    (fun hl w hb => nm_call hP EOK FOK hmix RS hr55 (Fz := Fz0) (fun c hc => Nat.lt_of_lt_of_le (hlt c hc) hb.size) hl (hmono hb hk3))
  rw [hP]
  refine hw.mono ?_
  rintro e w ⟨hB, ⟨hq, rfl⟩ | ⟨hq, v, xs, rfl, hk, hr, ho, hn⟩⟩
  · refine ⟨_, rfl, back_to (τ := tSaveF 3 59) (y := (([] : List StepF), false)) ?_ (out_back hlt hB DO_nil List.nodup_nil (fun b hb => by cases hb))⟩
    show saveF na ca da nb cb db ns = _
    unfold saveF
    rw [hq]; rfl
  · refine ⟨_, rfl, back_to (τ := tSaveF 3 59) (y := ((xs.map El.key : List StepF), true)) ?_ (out_back hlt hB (row_DO hr ho) (row_nodup hr ho hn) (row_blocks hr ho))⟩
    show saveF na ca da nb cb db ns = _
    unfold saveF
    rw [hq, hk]; rfl
end
end Go.Proofs.YtiabhdebjajgiaaSave
