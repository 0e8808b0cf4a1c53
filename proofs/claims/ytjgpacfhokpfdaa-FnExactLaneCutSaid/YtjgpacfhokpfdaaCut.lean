/- A chain is cut behind what agrees: the walks of undoing and of laneCut; what is answered. No condition. -/
import Derived.Test.YtjgpacfhokpfdaaChain
import Derived.Test.YtjgpacfhokpfdaaSx27
import Derived.Test.YtjgpacfhokpfdaaPl
import Derived.BigRegion
set_option linter.unusedVariables false
namespace Go.Proofs.YtjgpacfhokpfdaaCut
open Go Go.RowKit Go.Proofs.YtjgpacfhokpfdaaChain
section
variable {w w' : World} {lo hi L : Nat}
theorem Seg.app : ∀ {a b : List (List Value)} {p q s : Option Addr}, Seg w lo hi L a p q → Seg w lo hi L b q s → Seg w lo hi L (a ++ b) p s
  | [], _, _, _, _, rfl, h => h
  | _ :: _, _, _, _, _, ⟨g, nx, hp, h1, h2, hg, hs⟩, h => ⟨g, nx, hp, h1, h2, hg, Seg.app hs h⟩
theorem last_eq {a b : List Value} {x y : Option Addr} (h : (a ++ [Value.pointer x]).toArray = (b ++ [Value.pointer y]).toArray) : x = y := by
  have h1 : a ++ [Value.pointer x] = b ++ [Value.pointer y] := by simpa using h
  have := (List.append_inj' h1 rfl).2
  simpa using this
theorem Seg.det : ∀ {a b : List (List Value)} {p : Option Addr}, Seg w lo hi L a p none → Seg w lo hi L b p none → a.length = b.length
  | [], [], _, _, _ => rfl
  | [], _ :: _, _, h, ⟨g, nx, hp, _⟩ => by cases h.symm.trans hp
  | _ :: _, [], _, ⟨g, nx, hp, _⟩, h => by cases h.symm.trans hp
  | r :: a, r' :: b, _, ⟨g, nx, hp, _, _, hg, hs⟩, ⟨g', nx', hp', _, _, hg', hs'⟩ => by
    rw [hp] at hp'
    cases hp'
    rw [hg] at hg'
    have e := last_eq (by simpa using hg' : (r ++ [Value.pointer nx]).toArray = (r' ++ [Value.pointer nx']).toArray)
    subst e
    simp [Seg.det hs hs']
theorem Seg.cut {g : Nat} {r : List Value} {nx : Option Addr} {b : List (List Value)} (h1 : lo ≤ g) (h2 : g < hi) (hg : w.heap[g]? = some (.cells (r ++ [Value.pointer nx]).toArray L (0, 0))) (hb : Seg w lo hi L b nx none)
    (hk : ∀ k, lo ≤ k → k < hi → k ≠ g → w'.heap[k]? = w.heap[k]?) (hg' : w'.heap[g]? = some (.cells (r ++ [Value.pointer none]).toArray L (0, 0))) : ∀ {a : List (List Value)} {p : Option Addr}, Seg w lo hi L a p (some ⟨g, 0, none⟩) → Seg w' lo hi L (a ++ [r]) p none
  | [], _, rfl => ⟨g, none, rfl, h1, h2, hg', rfl⟩
  | x :: a, p, ⟨g1, nx1, hp, h3, h4, hg1, hs⟩ => by
    refine ⟨g1, nx1, hp, h3, h4, ?_, Seg.cut h1 h2 hg hb hk hg' hs⟩
    rw [hk g1 h3 h4 ?_]
    · exact hg1
    · rintro rfl
      rw [hg1] at hg
      have e := last_eq (by simpa using hg : (x ++ [Value.pointer nx1]).toArray = (r ++ [Value.pointer nx]).toArray)
      subst e
      have hm : Seg w lo hi L (x :: b) (some ⟨g1, 0, none⟩) none := ⟨g1, nx1, rfl, h1, h2, hg1, hb⟩
      have hl := Seg.det (Seg.app hs hm) hb
      simp only [List.length_append, List.length_cons] at hl
      omega
theorem chn_seg {gc CH : Nat} {rows : Nat → List Value} {k : Nat} (h : Chn w gc CH L rows k) : gc < w.heap.size ∧ ∃ p0 pl, w.heap[gc]? = some (.cells #[.pointer p0, .pointer pl] CH (0, 0)) ∧ Seg w (gc + 1) w.heap.size L ((List.range k).map rows) p0 none := by
  obtain ⟨hlt, p0, pl, hg, hc⟩ := h
  refine ⟨hlt, p0, pl, hg, ?_⟩
  rcases hc with ⟨rfl, rfl, rfl⟩ | ⟨gl, j, rfl, rfl, h1, h2, hs, hl⟩
  · rfl
  · rw [List.range_succ, List.map_append]
    exact Seg.snoc (g := gl) (by omega) h2 hl (hs.mono (fun _ _ _ => rfl) (by omega))
end
theorem undoing_w (w : World) (p : Option Addr) : Calls Try.prog 138 #[.pointer p] w fun e w' => e = .returned (.func (.func 158) #[] #[.pointer (some ⟨w.heap.size, 0, none⟩)]) ∧ w' = w.alloc (.cells #[.pointer p] 159) := by
  go_enter Try.func138, Try.ntmps138
  go_wp2
  go_ret
  exact ⟨rfl, rfl⟩
theorem undo_w (w : World) (gc bx hi m : Nat) (rs : List (List Value)) (p0 pl : Option Addr) (hgc : gc < hi) (hhi : hi ≤ w.heap.size) (hm : m < rs.length) (hm2 : m ≤ 1048576) (hall : ∀ r ∈ rs, r.length = 12) (hb : bx ≠ gc) (hbx : w.cell? ⟨bx, 0, none⟩ = some (.pointer (some ⟨gc, 0, none⟩)))
    (hg : w.heap[gc]? = some (.cells #[.pointer p0, .pointer pl] 186 (0, 0))) (hs : Seg w (gc + 1) hi 189 rs p0 none) :
    Calls Try.prog 158 #[.int .i64 m, .pointer (some ⟨bx, 0, none⟩)] w fun e w' => e = .returned (.tuple #[]) ∧ Below gc w w' ∧ ∃ q0 ql, w'.heap[gc]? = some (.cells #[.pointer q0, .pointer ql] 186 (0, 0)) ∧ Seg w' (gc + 1) hi 189 (rs.take m) q0 none := by
  have c0 : w.cell? ⟨gc, 0, none⟩ = some (.pointer p0) := cell_of hg rfl
  have c1 : w.cell? ⟨gc, 1, none⟩ = some (.pointer pl) := cell_of hg rfl
  have f0 : w.frozen? ⟨gc, 0, none⟩ = false := froz_of hg
  have f1 : w.frozen? ⟨gc, 1, none⟩ = false := froz_of hg
  have HS := Lib.hid hs
  have HG := Lib.hid hg
  have HA := Lib.hid hall
  clear hs hg hall
  go_enter Try.func158, Try.ntmps158
  by_cases h0 : m = 0
  · subst h0
    go_wp2
    have hb' : gc ≠ bx := fun h => hb h.symm
    have k1 : ∀ v, (w.setCell ⟨gc, 0, none⟩ v).cell? ⟨bx, 0, none⟩ = some (.pointer (some ⟨gc, 0, none⟩)) := fun v => (World.cell?_of_block (Below.heap_setCell w ⟨gc, 0, none⟩ v bx hb)).trans hbx
    have k2 : ∀ v, (w.setCell ⟨gc, 1, none⟩ v).cell? ⟨bx, 0, none⟩ = some (.pointer (some ⟨gc, 0, none⟩)) := fun v => (World.cell?_of_block (Below.heap_setCell w ⟨gc, 1, none⟩ v bx hb)).trans hbx
    go_region
    go_wp2
    refine bodyPost_ret (results_none rfl _ _ _) rfl ⟨rfl, ?_, none, none, ?_, rfl⟩
    · have hB := ((Below.refl gc w).setCell (p := ⟨gc, 0, none⟩) (Nat.le_refl _) (.pointer none)).setCell (p := ⟨gc, 1, none⟩) (Nat.le_refl _) (.pointer none)
      exact hB.drew
    · have := heap_setCell_same _ _ 1 _ _ (Value.pointer none) (heap_setCell_same _ _ 0 _ _ (Value.pointer none) HG.out)
      exact Eq.trans (show _ = ((w.setCell ⟨gc, 0, none⟩ (.pointer none)).setCell ⟨gc, 1, none⟩ (.pointer none)).heap[gc]? from rfl) (by simpa using this)
  · have h1 : 1 ≤ m := by omega
    go_wp2
    go_loopw [3, 4] (fun l i wr => ∃ (s : Nat) (q : Option Addr), 1 ≤ s ∧ s ≤ m ∧ i = .int .i64 s ∧ l = .pointer q ∧ wr = w ∧ Seg w (gc + 1) hi 189 (rs.take (s - 1)) p0 q ∧ Seg w (gc + 1) hi 189 (rs.drop (s - 1)) q none) (fun _ i _ => m - (intOf i).toNat)
    case atStart => exact ⟨1, p0, Nat.le_refl _, h1, rfl, rfl, rfl, rfl, HS.out⟩
    case round =>
      obtain ⟨s, q, hs1, hs2, rfl, rfl, rfl, hs3, hs4⟩ := hrel
      obtain ⟨r, rest, hrest⟩ : ∃ r rest, rs.drop (s - 1) = r :: rest := by
        cases hd : rs.drop (s - 1) with
        | nil => have := congrArg List.length hd; simp at this; omega
        | cons r rest => exact ⟨r, rest, rfl⟩
      have hr12 := HA.out r (List.mem_of_mem_drop (by rw [hrest]; exact List.mem_cons_self ..))
      have htake : rs.take (s - 1 + 1) = rs.take (s - 1) ++ [r] := by
        have h9 : rs = rs.take (s - 1) ++ r :: rest := by rw [← hrest, List.take_append_drop]
        have h8 : (rs.take (s - 1)).length = s - 1 := by rw [List.length_take]; omega
        conv => lhs; rw [h9]
        rw [List.take_append, h8, List.take_of_length_le (by omega)]
        simp [show s - 1 + 1 - (s - 1) = 1 by omega]
      have hdrop : rs.drop (s - 1 + 1) = rest := by rw [← List.drop_drop, hrest]; rfl
      rw [hrest] at hs4
      obtain ⟨g, nx, rfl, hg1, hg2, hgg, hs5⟩ := hs4
      have e12 : (r ++ [Value.pointer nx]).toArray[12]? = some (.pointer nx) := by simp [hr12]
      have cg : wr.cell? ⟨g, 12, none⟩ = some (.pointer nx) := cell_of hgg e12
      have fg : wr.frozen? ⟨g, 12, none⟩ = false := froz_of hgg
      have H3 := Lib.hid hs3
      have H5 := Lib.hid hs5
      have H6 := Lib.hid hgg
      have H7 := Lib.hid htake
      have H8 := Lib.hid hdrop
      have H9 := Lib.hid hr12
      have H10 := Lib.hid hrest
      have H11 := Lib.hid e12
      clear hs3 hs5 hgg htake hdrop hr12 hrest e12
      by_cases hlt : s < m
      · go_wp2
        go_roundw
        case rel => exact ⟨s + 1, nx, by omega, by omega, by go_num, rfl, by first | rfl | trivial, by have e := H7.out; rw [show s - 1 + 1 = s + 1 - 1 by omega] at e; rw [e]; exact Seg.snoc hg1 hg2 H6.out H3.out, by have e := H8.out; rw [show s - 1 + 1 = s + 1 - 1 by omega] at e; rw [e]; exact H5.out⟩
        case measure => simp [intOf]; omega
      · obtain rfl : s = m := by omega
        go_wp2
        have hne : g ≠ gc := by omega
        have w1 : ∀ k, k ≠ g → k ≠ gc → ((wr.setCell ⟨g, 12, none⟩ (.pointer none)).setCell ⟨gc, 1, none⟩ (.pointer (some ⟨g, 0, none⟩))).heap[k]? = wr.heap[k]? := fun k h h' => (Below.heap_setCell _ ⟨gc, 1, none⟩ _ k h').trans (Below.heap_setCell _ ⟨g, 12, none⟩ _ k h)
        refine bodyPost_end (results_none rfl _ _ _) rfl ⟨rfl, ?_, p0, some ⟨g, 0, none⟩, ?_, ?_⟩
        · exact ((Below.refl gc wr).setCell (p := ⟨g, 12, none⟩) (by show gc ≤ g; omega) (.pointer none)).setCell (p := ⟨gc, 1, none⟩) (Nat.le_refl _) (.pointer (some ⟨g, 0, none⟩))
        · have := heap_setCell_same _ _ 1 _ _ (Value.pointer (some ⟨g, 0, none⟩)) ((Below.heap_setCell wr ⟨g, 12, none⟩ (.pointer none) gc (fun h => hne h.symm)).trans HG.out)
          simpa using this
        · have e := H7.out
          rw [show s - 1 + 1 = s by omega] at e
          rw [e]
          refine Seg.cut hg1 hg2 H6.out H5.out (fun k k1 k2 k3 => w1 k k3 (by omega)) ?_ H3.out
          have := (Below.heap_setCell (wr.setCell ⟨g, 12, none⟩ (.pointer none)) ⟨gc, 1, none⟩ (.pointer (some ⟨g, 0, none⟩)) g hne).trans (heap_setCell_same _ _ 12 _ _ (Value.pointer none) H6.out)
          rw [this]
          have h9 := H9.out
          simp [h9]

/-! ### what the machine says of agreeing and list -/
open Go.Sx Go.Pl
abbrev tCh (e1 : Nat) (u1 : Ty) (e2 : Nat) (u2 : Ty) : Ty := .pair (.lk 189 (tPa e1 u1 e2 u2)) .any
abbrev PaT (u1 u2 : Ty) : Type := Tup7 × ((Int × Int × Int) × (List (el u1) × List (el u2)))
def dP (e1 e2 : Nat) (u1 u2 : Ty) : PaT u1 u2 := dflt (tPa e1 u1 e2 u2)
def dE : Tup7 := dflt tEv
section
variable {E : Env} {e1 e2 : Nat} {u1 u2 : Ty}
noncomputable def ag3 (E : Env) (e1 e2 : Nat) (u1 u2 : Ty) (k j : Nat) (ys : List Tup7) (i : Int) (xs : List (PaT u1 u2)) : Option Int := loopAt (noExt E) 137 i1 [true, true, false, true, false] [] [] k [] j (mkS 38 [(1, .c (.sl 41 tEv ys)), (5, .c (.int .i64 i)), (6, .c (.lk 189 (tPa e1 u1 e2 u2) xs))]) []
noncomputable def ls3 (E : Env) (e1 e2 : Nat) (u1 u2 : Ty) (k j : Nat) (xs acc : List (PaT u1 u2)) : Option (List (PaT u1 u2)) := loopAt (noExt E) 139 (.ow 96 (tPa e1 u1 e2 u2)) [true, true, false, true, false] [] [] k [] j (mkS 23 [(3, .c (.o 0)), (4, .c (.lk 189 (tPa e1 u1 e2 u2) xs))]) [some (.own 96 (tPa e1 u1 e2 u2) acc)]
/-- What the kernel says of one round of each. -/
structure Rounds (E : Env) (e1 e2 : Nat) (u1 u2 : Ty) : Prop where
  ag : ∀ k (xs : List (PaT u1 u2)) (ys : List Tup7), evalT (noExt E) (k + 1) 137 i1 [.c (.pr (tCh e1 u1 e2 u2) (xs, ()) 0), .c (.sl 41 tEv ys)] [] = ag3 E e1 e2 u1 u2 k k ys 0 xs
  ag3 : ∀ k j ys i xs, ag3 E e1 e2 u1 u2 k (j + 1) ys i xs = cond (!xs.isEmpty) (cond (decide (i < (ys.length : Int))) (cond (!xs.isEmpty) (cond (decide (0 ≤ i)) (cond (decide (i < (ys.length : Int))) (
    cond ((xs.headD (dP e1 e2 u1 u2)).1.1 == (ys.getD i.toNat dE).1 && ((xs.headD (dP e1 e2 u1 u2)).1.2.1 == (ys.getD i.toNat dE).2.1 && ((xs.headD (dP e1 e2 u1 u2)).1.2.2.1 == (ys.getD i.toNat dE).2.2.1 &&
      ((xs.headD (dP e1 e2 u1 u2)).1.2.2.2.1 == (ys.getD i.toNat dE).2.2.2.1 && ((xs.headD (dP e1 e2 u1 u2)).1.2.2.2.2.1 == (ys.getD i.toNat dE).2.2.2.2.1 && ((xs.headD (dP e1 e2 u1 u2)).1.2.2.2.2.2.1 == (ys.getD i.toNat dE).2.2.2.2.2.1 &&
      ((xs.headD (dP e1 e2 u1 u2)).1.2.2.2.2.2.2 == (ys.getD i.toNat dE).2.2.2.2.2.2 && true)))))))
      (cond (!xs.isEmpty) (ag3 E e1 e2 u1 u2 k j ys (IntKind.i64.wrap (i + 1)) xs.tail) none) (some i)) none) none) none) (some i)) (some i)
  ls : ∀ k (xs : List (PaT u1 u2)), evalT (noExt E) (k + 1) 139 (.ow 96 (tPa e1 u1 e2 u2)) [.c (.pr (tCh e1 u1 e2 u2) (xs, ()) 0)] [] = ls3 E e1 e2 u1 u2 k k xs []
  ls3 : ∀ k j xs acc, ls3 E e1 e2 u1 u2 k (j + 1) xs acc = cond (!xs.isEmpty) (cond (!xs.isEmpty) (cond (decide ((acc.length + 1) * 128 ≤ 140737488351232)) (cond (!xs.isEmpty) (ls3 E e1 e2 u1 u2 k j xs.tail (acc ++ [xs.headD (dP e1 e2 u1 u2)])) none) none) none) (some acc)
theorem tup_eq (a b : Tup7) : (a.1 == b.1 && (a.2.1 == b.2.1 && (a.2.2.1 == b.2.2.1 && (a.2.2.2.1 == b.2.2.2.1 && (a.2.2.2.2.1 == b.2.2.2.2.1 && (a.2.2.2.2.2.1 == b.2.2.2.2.2.1 && (a.2.2.2.2.2.2 == b.2.2.2.2.2.2 && true))))))) = decide (a = b) := by
  obtain ⟨a1, a2, a3, a4, a5, a6, a7⟩ := a
  obtain ⟨b1, b2, b3, b4, b5, b6, b7⟩ := b
  simp only [Prod.mk.injEq, Bool.and_true]
  by_cases h1 : a1 = b1 <;> by_cases h2 : a2 = b2 <;> by_cases h3 : a3 = b3 <;> by_cases h4 : a4 = b4 <;> by_cases h5 : a5 = b5 <;> by_cases h6 : a6 = b6 <;> by_cases h7 : a7 = b7 <;> simp [h1, h2, h3, h4, h5, h6, h7]
theorem ag_ev (RS : Rounds E e1 e2 u1 u2) (ys : List Tup7) (hy : ys.length ≤ 1048576) : ∀ (xs : List (PaT u1 u2)) (i : Nat), EvL (fun k j => ag3 E e1 e2 u1 u2 k j ys (i : Int) xs) ((i + sameF xs (ys.drop i) : Nat) : Int)
  | [], i => by
    refine EvL.step (M := fun _ _ => some (i : Int)) (fun k j => ?_) ((EvL.now _).to (by simp [sameF]))
    rw [RS.ag3]; rfl
  | x :: xs, i => by
    by_cases hi : i < ys.length
    · have c1 : (i : Int) < (ys.length : Int) := by omega
      have c2 : (0 : Int) ≤ (i : Int) := by omega
      have hd : ys.drop i = ys.getD i dE :: ys.drop (i + 1) := getD_drop ys _ i hi
      have he : ∀ k j, ag3 E e1 e2 u1 u2 k (j + 1) ys (i : Int) (x :: xs) = cond (decide (x.1 = ys.getD i dE)) (ag3 E e1 e2 u1 u2 k j ys ((i + 1 : Nat) : Int) xs) (some (i : Int)) := fun k j => by
        rw [RS.ag3, ← tup_eq]
        simp only [decide_eq_true c1, decide_eq_true c2, Int.toNat_natCast, List.isEmpty_cons, Bool.not_false, cond_true, List.headD_cons, List.tail_cons, w64n i (by omega)]
      refine EvL.step he (EvL.cond (fun h => (ag_ev RS ys hy xs (i + 1)).to ?_) fun h => (EvL.now _).to ?_)
      · have h' : x.1 = ys.getD i dE := of_decide_eq_true h
        rw [hd]
        show ((i + 1 + sameF xs (ys.drop (i + 1)) : Nat) : Int) = ((i + (if x.1 = ys.getD i dE then sameF xs (ys.drop (i + 1)) + 1 else 0) : Nat) : Int)
        rw [if_pos h']; omega
      · have h' : ¬ x.1 = ys.getD i dE := of_decide_eq_false h
        rw [hd]
        show (i : Int) = ((i + (if x.1 = ys.getD i dE then sameF xs (ys.drop (i + 1)) + 1 else 0) : Nat) : Int)
        rw [if_neg h']; rfl
    · have c1 : ¬ (i : Int) < (ys.length : Int) := by omega
      refine EvL.step (M := fun _ _ => some (i : Int)) (fun k j => ?_) ((EvL.now _).to ?_)
      · rw [RS.ag3, decide_eq_false c1]; rfl
      · rw [List.drop_of_length_le (by omega)]; rfl
theorem ls_ev (RS : Rounds E e1 e2 u1 u2) : ∀ (xs acc : List (PaT u1 u2)), acc.length + xs.length ≤ 1048576 → EvL (fun k j => ls3 E e1 e2 u1 u2 k j xs acc) (acc ++ xs)
  | [], acc, _ => by
    refine EvL.step (M := fun _ _ => some acc) (fun k j => ?_) ((EvL.now _).to (by simp))
    rw [RS.ls3]; rfl
  | x :: xs, acc, h => by
    rw [List.length_cons] at h
    have := ls_ev RS xs (acc ++ [x]) (by rw [List.length_append, List.length_singleton]; omega)
    refine EvL.step (fun k j => ?_) (this.to (by simp))
    rw [RS.ls3, decide_eq_true (by omega)]; rfl
end

/-! ### the two calls, in a world that holds the chain -/
theorem relOf {w : World} {Fz : Nat → Prop} (hlt : ∀ b, Fz b → b < w.heap.size) : RelM w (Handed [] fun _ => none) Fz (fun i => i < ([] : List (Option Go.Sx.Obj)).length) (hpf []) (fun _ => none) Fz w :=
  ⟨Below.refl 0 w, fun _ _ _ => rfl, fun _ h => h, hlt, fun _ h => .inl h, fun _ _ h => by (cases h), fun id o h => by (rw [hpf_nil] at h; cases h), fun id b h => by (obtain ⟨o, v, h, _⟩ := h; rw [hpf_nil] at h; cases h), fun id id' b h => by (obtain ⟨o, v, h, _⟩ := h; rw [hpf_nil] at h; cases h)⟩
theorem not_handed {ρ : Nat → Option Value} {b : Nat} : ¬ Handed [] ρ b := by
  rintro ⟨id, o, v, h, _⟩
  rw [hpf_nil] at h; cases h
theorem int_back {w w' : World} {ρ : Nat → Option Value} {Fz : Nat → Prop} {n : Int} {v : Value} (h : Back w Fz [] ρ [] [i1] i1 n v w') : v = .int .i64 n ∧ (∀ b, b < w.heap.size → w'.heap[b]? = w.heap[b]?) ∧ Below 0 w w' := by
  obtain ⟨⟨cs, bs, us, Fz', bl, ⟨vs, hp, rfl⟩, hbo, hus, hk, _⟩, env, frame⟩ := h
  refine ⟨?_, fun b hb => frame b hb not_handed, env⟩
  obtain rfl : bs = [] := hbo
  obtain rfl : us = [] := by cases us with
    | nil => rfl
    | cons _ _ => exact hus.elim
  obtain ⟨hk, _⟩ := hk
  have hk : cs ++ ([] ++ []) = [Value.int .i64 n] := hk
  cases vs with
  | nil => exact hp.elim
  | cons v1 vs =>
    obtain ⟨c1, c2, rfl, hl, ho, hp⟩ := hp
    cases vs with
    | cons _ _ => exact hp.elim
    | nil =>
      obtain rfl : c2 = [] := hp
      rcases ho with ⟨hag, _⟩ | ⟨_, rfl⟩
      · cases hag
      · show v1 = _
        simpa using hk
theorem row_back {w w' : World} {ρ : Nat → Option Value} {Fz : Nat → Prop} {P : Nat} {t : Ty} {xs : List (el t)} {v : Value} (hlt : ∀ b, Fz b → b < w.heap.size) (h : Back w Fz [] ρ [] [.ow P t] (.ow P t) xs v w') : (∀ b, b < w.heap.size → w'.heap[b]? = w.heap[b]?) ∧ Below 0 w w' ∧ KI w' (fun b => Fz b ∨ (w.heap.size ≤ b ∧ b < w'.heap.size)) (.sl P t) xs [v] := by
  obtain ⟨⟨cs, bs, us, Fz', bl, ⟨vs, hp, rfl⟩, hbo, hus, hk, _, hbl, _, hfz, _⟩, env, frame⟩ := h
  refine ⟨fun b hb => frame b hb not_handed, env, ?_⟩
  obtain rfl : bs = [] := hbo
  obtain rfl : us = [] := by cases us with
    | nil => rfl
    | cons _ _ => exact hus.elim
  obtain ⟨u, row, hk, hown, hrows, rfl⟩ := hk
  cases vs with
  | nil => exact hp.elim
  | cons v1 vs =>
    obtain ⟨c1, c2, rfl, hl, ho, hp⟩ := hp
    cases vs with
    | cons _ _ => exact hp.elim
    | nil =>
      obtain rfl : c2 = [] := hp
      rcases ho with ⟨hag, _⟩ | ⟨_, rfl⟩
      · cases hag
      · obtain rfl : v1 = u := by simpa using hk
        refine own_KI hown hrows (fun b hb => ?_) fun b hb => ?_
        · rcases hfz b hb with ⟨h1, h2 | h2 | h2⟩
          · exact .inl h2
          · exact absurd h2 not_handed
          · exact .inr ⟨h2, h1⟩
        · have hb : blkV v1 = some b := hb
          obtain ⟨_, h1, h2⟩ := hbl b (by rw [hb]; simp)
          rcases h2 with h2 | h2
          · exact absurd h2 not_handed
          · exact .inr ⟨h2, h1⟩

/-- The boxes of the function's own variables. -/
def Boxes (L0 : Nat) (w : World) (p a b d : Int) (v : Value) : Prop := L0 + 2 < w.heap.size ∧ w.heap[L0]? = some (.cells #[.int .i64 p, .int .i64 a, .int .i64 b, .int .i64 d, v] 32 (0, 0)) ∧ w.heap[L0 + 1]? = some (.cells #[.int .i64 0, .int .i64 0, .int .i64 0, .int .i64 0, .slice none 0 0] 32 (0, 0))
/-- But for these boxes nothing is changed. -/
def Same2 (L0 : Nat) (w w' : World) : Prop := Below L0 w w' ∧ w'.heap.size = w.heap.size ∧ ∀ k, L0 + 1 < k → w'.heap[k]? = w.heap[k]?
theorem res_cell {P : Program} {fn : Func} {tmps : Array Value} {w : World} {x t : Tmp} {T : TypeId} {g : Nat} {u u2 : Value} (hr : fn.results = #[.cell x T, .tmp t]) (hx : tmps.getD x undef = .pointer (some ⟨g, 0, none⟩)) (ht : tmps.getD t undef = u2) (hl : (loadVar T ⟨g, 0, none⟩).run P w = .ok u w) : (results fn tmps).run P w = .ok (.tuple #[u, u2]) w := by
  show Sem.run P (fn.results.mapM (rGet tmps) >>= fun vs => pure (if h : vs.size = 1 then vs[0] else .tuple vs)) w = _
  rw [hr, show (#[ResultVar.cell x T, ResultVar.tmp t] : Array ResultVar) = [ResultVar.cell x T, ResultVar.tmp t].toArray from rfl, List.mapM_toArray]
  have hc : ((asAddr (tmps.getD x undef) >>= fun ad => loadVar T ad) : Sem Value).run P w = .ok u w := by rw [hx]; exact hl
  have h1 : (rGet tmps (.cell x T)).run P w = .ok u w := hc
  have h2 : (rGet tmps (.tmp t)).run P w = .ok u2 w := by rw [← ht]; rfl
  simp only [List.mapM_cons, List.mapM_nil, Sem.run_bind, Sem.run_map, Sem.run_pure, Result.andThen_ok, h1, h2]
  rfl
theorem load_five {w : World} {g : Nat} {x0 x1 x2 x3 x4 : Value} (h : w.heap[g]? = some (.cells #[x0, x1, x2, x3, x4] 32 (0, 0))) : (loadVar 32 ⟨g, 0, none⟩).run Try.prog w = .ok (.agg #[x0, x1, x2, x3, x4]) w := by
  have c0 : w.cell? ⟨g, 0, none⟩ = some x0 := cell_of h rfl
  have c1 : w.cell? ⟨g, 1, none⟩ = some x1 := cell_of h rfl
  have c2 : w.cell? ⟨g, 2, none⟩ = some x2 := cell_of h rfl
  have c3 : w.cell? ⟨g, 3, none⟩ = some x3 := cell_of h rfl
  have c4 : w.cell? ⟨g, 4, none⟩ = some x4 := cell_of h rfl
  simp [loadVar, loadCells, loadCellsFrom, Addr.add, c0, c1, c2, c3, c4]
theorem same2_set {L0 : Nat} {w w' : World} (h : Same2 L0 w w') {g : Nat} (hg : L0 ≤ g) (hg2 : g ≤ L0 + 1) (i : Nat) (v : Value) : Same2 L0 w (w'.setCell ⟨g, i, none⟩ v) :=
  ⟨h.1.setCell (p := ⟨g, i, none⟩) hg v, by simpa using h.2.1, fun k hk => (Below.heap_setCell w' ⟨g, i, none⟩ v k (by show k ≠ g; omega)).trans (h.2.2 k hk)⟩
theorem same2_refl (L0 : Nat) (w : World) : Same2 L0 w w := ⟨Below.refl _ _, rfl, fun _ _ => rfl⟩
theorem same2_five (L0 : Nat) (w : World) (x0 x1 x2 x3 x4 : Value) : Same2 L0 w (((((w.setCell ⟨L0 + 1, 0, none⟩ x0).setCell ⟨L0 + 1, 1, none⟩ x1).setCell ⟨L0 + 1, 2, none⟩ x2).setCell ⟨L0 + 1, 3, none⟩ x3).setCell ⟨L0 + 1, 4, none⟩ x4) :=
  same2_set (same2_set (same2_set (same2_set (same2_set (same2_refl L0 w) (by omega) (by omega) _ _) (by omega) (by omega) _ _) (by omega) (by omega) _ _) (by omega) (by omega) _ _) (by omega) (by omega) _ _
theorem laneCut_w (w0 : World) (p a b d : Int) (A v2 : Option Addr) (n c m c2 same : Nat) (hn : n ≤ 1048576) (hsn : same ≤ n) (Q : Ending → World → Prop) (I1 I3 : World → Prop) (I2 : World → World → Prop)
    (hb1 : ∀ w, I1 w → Boxes w0.heap.size w p a b d (.slice A n c)) (hb2 : ∀ w w', I1 w → I2 w w' → Boxes w0.heap.size w' p a b d (.slice A n c)) (hb3 : ∀ w, I3 w → Boxes w0.heap.size w p a b d (.slice A n c))
    (h1 : Calls Try.prog 136 #[.slice A n c] ((w0.alloc (.cells #[.int .i64 p, .int .i64 a, .int .i64 b, .int .i64 d, .slice A n c] 32)).alloc (.cells #[.int .i64 0, .int .i64 0, .int .i64 0, .int .i64 0, .slice none 0 0] 32)) fun e w => e = .returned (.pointer (some ⟨w0.heap.size + 2, 0, none⟩)) ∧ I1 w)
    (h2 : ∀ w, I1 w → Calls Try.prog 137 #[.pointer (some ⟨w0.heap.size + 2, 0, none⟩), .slice v2 m c2] (w.alloc (.cells #[.pointer (some ⟨w0.heap.size + 2, 0, none⟩)] 159)) fun e w' => e = .returned (.int .i64 same) ∧ I2 w w')
    (h3 : same = n → ∀ w w' w'', I1 w → I2 w w' → Same2 w0.heap.size w' w'' → Q (.returned (.tuple #[.agg #[.int .i64 p, .int .i64 a, .int .i64 b, .int .i64 d, .slice A n c], .bool false])) w'')
    (h4 : same < n → ∀ w w', I1 w → I2 w w' → Calls Try.prog 158 #[.int .i64 same, .pointer (some ⟨w.heap.size, 0, none⟩)] w' fun e w'' => e = .returned (.tuple #[]) ∧ I3 w'')
    (h5 : ∀ w, I3 w → Calls Try.prog 139 #[.pointer (some ⟨w0.heap.size + 2, 0, none⟩)] w fun e w' => ∃ q l r, e = .returned (.slice q l r) ∧ Boxes w0.heap.size w' p a b d (.slice A n c) ∧ ∀ w'', Same2 w0.heap.size w' w'' → Q (.returned (.tuple #[.agg #[.int .i64 p, .int .i64 a, .int .i64 b, .int .i64 d, .slice q l r], .bool true])) w'') :
    Calls Try.prog 78 #[.agg #[.int .i64 p, .int .i64 a, .int .i64 b, .int .i64 d, .slice A n c], .slice v2 m c2] w0 Q := by
  have H1 := Lib.hid h1
  have H2 := Lib.hid h2
  have H3 := Lib.hid h3
  have H4 := Lib.hid h4
  have H5 := Lib.hid h5
  have B1 := Lib.hid hb1
  have B2 := Lib.hid hb2
  have B3 := Lib.hid hb3
  clear h1 h2 h3 h4 h5 hb1 hb2 hb3
  go_enter Try.func78, Try.ntmps78
  go_wp2_with fail
  refine H1.out.mono ?_
  rintro e w ⟨rfl, hI⟩
  have HI := Lib.hid hI
  clear hI
  go_wp2_with fail
  refine (undoing_w w _).mono ?_
  rintro e w' ⟨rfl, rfl⟩
  go_wp2_with fail
  refine (H2.out w HI.out).mono ?_
  rintro e w' ⟨rfl, hI2⟩
  obtain ⟨hsz, hc1, hc2⟩ := B2.out w w' HI.out hI2
  have HI2 := Lib.hid hI2
  clear hI2
  have C1 := Lib.hid hc1
  have C2 := Lib.hid hc2
  have k0 : w'.cell? ⟨w0.heap.size, 0, none⟩ = some (.int .i64 p) := cell_of hc1 rfl
  have k1 : w'.cell? ⟨w0.heap.size, 1, none⟩ = some (.int .i64 a) := cell_of hc1 rfl
  have k2 : w'.cell? ⟨w0.heap.size, 2, none⟩ = some (.int .i64 b) := cell_of hc1 rfl
  have k3 : w'.cell? ⟨w0.heap.size, 3, none⟩ = some (.int .i64 d) := cell_of hc1 rfl
  have k4 : w'.cell? ⟨w0.heap.size, 4, none⟩ = some (.slice A n c) := cell_of hc1 rfl
  have r0 : w'.cell? ⟨w0.heap.size + 1, 0, none⟩ = some (.int .i64 0) := cell_of hc2 rfl
  have r1 : w'.cell? ⟨w0.heap.size + 1, 1, none⟩ = some (.int .i64 0) := cell_of hc2 rfl
  have r2 : w'.cell? ⟨w0.heap.size + 1, 2, none⟩ = some (.int .i64 0) := cell_of hc2 rfl
  have r3 : w'.cell? ⟨w0.heap.size + 1, 3, none⟩ = some (.int .i64 0) := cell_of hc2 rfl
  have r4 : w'.cell? ⟨w0.heap.size + 1, 4, none⟩ = some (.slice none 0 0) := cell_of hc2 rfl
  have f0 : ∀ i, w'.frozen? ⟨w0.heap.size + 1, i, none⟩ = false := fun i => froz_of hc2
  clear hc1 hc2
  by_cases hsame : same = n
  · go_wp2
    have hh := fun x0 x1 x2 x3 x4 => heap_setCell_same _ _ 4 _ _ x4 (heap_setCell_same _ _ 3 _ _ x3 (heap_setCell_same _ _ 2 _ _ x2 (heap_setCell_same _ _ 1 _ _ x1 (heap_setCell_same _ _ 0 _ _ x0 C2.out))))
    refine bodyPost_ret (res_cell rfl rfl rfl (load_five (by have := hh (.int .i64 p) (.int .i64 a) (.int .i64 b) (.int .i64 d) (.slice A n c); simpa using this))) rfl (H3.out hsame w w' _ HI.out HI2.out (same2_five _ _ _ _ _ _ _))
  · have hlt : same < n := by omega
    go_wp2_with fail
    refine (H4.out hlt w w' HI.out HI2.out).mono ?_
    rintro e w3 ⟨rfl, hI3⟩
    have HI3 := Lib.hid hI3
    clear hI3 k0 k1 k2 k3 k4 r0 r1 r2 r3 r4 f0
    go_wp2_with fail
    refine (H5.out w3 HI3.out).mono ?_
    rintro e w4 ⟨q, l, r, rfl, ⟨hsz4, hc1, hc2⟩, hQ⟩
    have HQ := Lib.hid hQ
    have D1 := Lib.hid hc1
    have D2 := Lib.hid hc2
    have k0 : w4.cell? ⟨w0.heap.size, 0, none⟩ = some (.int .i64 p) := cell_of hc1 rfl
    have k1 : w4.cell? ⟨w0.heap.size, 1, none⟩ = some (.int .i64 a) := cell_of hc1 rfl
    have k2 : w4.cell? ⟨w0.heap.size, 2, none⟩ = some (.int .i64 b) := cell_of hc1 rfl
    have k3 : w4.cell? ⟨w0.heap.size, 3, none⟩ = some (.int .i64 d) := cell_of hc1 rfl
    have k4 : w4.cell? ⟨w0.heap.size, 4, none⟩ = some (.slice A n c) := cell_of hc1 rfl
    have r0 : w4.cell? ⟨w0.heap.size + 1, 0, none⟩ = some (.int .i64 0) := cell_of hc2 rfl
    have r1 : w4.cell? ⟨w0.heap.size + 1, 1, none⟩ = some (.int .i64 0) := cell_of hc2 rfl
    have r2 : w4.cell? ⟨w0.heap.size + 1, 2, none⟩ = some (.int .i64 0) := cell_of hc2 rfl
    have r3 : w4.cell? ⟨w0.heap.size + 1, 3, none⟩ = some (.int .i64 0) := cell_of hc2 rfl
    have r4 : w4.cell? ⟨w0.heap.size + 1, 4, none⟩ = some (.slice none 0 0) := cell_of hc2 rfl
    have f0 : ∀ i, w4.frozen? ⟨w0.heap.size + 1, i, none⟩ = false := fun i => froz_of hc2
    have f1 : ∀ i, w4.frozen? ⟨w0.heap.size, i, none⟩ = false := fun i => froz_of hc1
    clear hc1 hc2 hQ
    go_wp2
    have hh := fun x0 x1 x2 x3 x4 => heap_setCell_same _ _ 4 _ _ x4 (heap_setCell_same _ _ 3 _ _ x3 (heap_setCell_same _ _ 2 _ _ x2 (heap_setCell_same _ _ 1 _ _ x1 (heap_setCell_same _ _ 0 _ _ x0 ((Below.heap_setCell w4 ⟨w0.heap.size, 4, none⟩ (.slice q l r) (w0.heap.size + 1) (by simp)).trans D2.out)))))
    refine bodyPost_ret (res_cell rfl rfl rfl (load_five (by have := hh (.int .i64 p) (.int .i64 a) (.int .i64 b) (.int .i64 d) (.slice q l r); simpa using this))) rfl (HQ.out _ ?_)
    have h9 := same2_set (same2_refl w0.heap.size w4) (Nat.le_refl _) (Nat.le_succ _) 4 (.slice q l r)
    exact same2_set (same2_set (same2_set (same2_set (same2_set h9 (by omega) (by omega) _ _) (by omega) (by omega) _ _) (by omega) (by omega) _ _) (by omega) (by omega) _ _) (by omega) (by omega) _ _

/-! ### what laneCut answers -/
abbrev tLa (e1 : Nat) (u1 : Ty) (e2 : Nat) (u2 : Ty) : Ty := .pair i1 (.pair tSt (.sl 96 (tPa e1 u1 e2 u2)))
theorem below_all {w w' : World} (h : Below 0 w w') (hh : ∀ b, b < w.heap.size → w'.heap[b]? = w.heap[b]?) : Below w.heap.size w w' := ⟨h.os, h.tape, h.output, h.size, hh⟩
section
variable {E : Env} {e1 e2 : Nat} {u1 u2 : Ty}
theorem fin_back {w0 w : World} {ρ : Nat → Option Value} {Fz0 : Nat → Prop} (hlt : ∀ b, Fz0 b → b < w0.heap.size) (hB : Below w0.heap.size w0 w) {p a b d : Int} {zs : List (PaT u1 u2)} {bo : Bool} {sv : Value} (hk : KI w (fun k => Fz0 k ∨ (w0.heap.size ≤ k ∧ k < w.heap.size)) (.sl 96 (tPa e1 u1 e2 u2)) zs [sv]) :
    Back w0 Fz0 [] ρ [] [tLa e1 u1 e2 u2, .bool] (.pair (tLa e1 u1 e2 u2) .bool) ((p, (a, b, d), zs), bo) (.tuple #[.agg #[.int .i64 p, .int .i64 a, .int .i64 b, .int .i64 d, sv], .bool bo]) w := by
  refine ⟨⟨[.int .i64 p, .int .i64 a, .int .i64 b, .int .i64 d, sv, .bool bo], [], [], (fun k => Fz0 k ∨ (w0.heap.size ≤ k ∧ k < w.heap.size)), [], ?_, rfl, trivial, ?_, List.nodup_nil, (fun b hb => by cases hb), (fun b hb => .inl hb), (fun b hb => ?_), (fun i ty cs g h => by cases h)⟩, hB.mono (Nat.zero_le _), fun b hb _ => hB.block b hb⟩
  · exact ⟨[.agg #[.int .i64 p, .int .i64 a, .int .i64 b, .int .i64 d, sv], .bool bo], ⟨[.int .i64 p, .int .i64 a, .int .i64 b, .int .i64 d, sv], [.bool bo], rfl, rfl, .inl ⟨rfl, rfl⟩, [.bool bo], [], rfl, rfl, .inr ⟨rfl, rfl⟩, rfl⟩, rfl⟩
  · exact ⟨[.int .i64 p, .int .i64 a, .int .i64 b, .int .i64 d, sv], [.bool bo], [], [], rfl, rfl, ⟨[.int .i64 p], [.int .i64 a, .int .i64 b, .int .i64 d, sv], [], [], rfl, rfl, ⟨rfl, rfl⟩, [.int .i64 a, .int .i64 b, .int .i64 d], [sv], [], [], rfl, rfl,
      ⟨[.int .i64 a], [.int .i64 b, .int .i64 d], [], [], rfl, rfl, ⟨rfl, rfl⟩, [.int .i64 b], [.int .i64 d], [], [], rfl, rfl, ⟨rfl, rfl⟩, ⟨rfl, rfl⟩⟩, ⟨hk, rfl⟩⟩, ⟨rfl, rfl⟩⟩
  · rcases hb with hb | ⟨h1, h2⟩
    · exact ⟨Nat.lt_of_lt_of_le (hlt b hb) hB.size, .inl hb⟩
    · exact ⟨h2, .inr (.inr h1)⟩
theorem ch_rep {w : World} {ρ : Nat → Option Value} {Fz : Nat → Prop} {zs : List (PaT u1 u2)} {rows : Nat → List Value} {gc hi : Nat} {p0 pl : Option Addr} (hgz : Fz gc) (hg : w.heap[gc]? = some (.cells #[.pointer p0, .pointer pl] 186 (0, 0))) (hf : ∀ b, gc + 1 ≤ b → b < hi → Fz b)
    (hs : Seg w (gc + 1) hi 189 ((List.range zs.length).map rows) p0 none) (hK : ∀ i (hi : i < zs.length), KI w Fz (tPa e1 u1 e2 u2) zs[i] (rows i)) : ACRep w ρ Fz (.pr (tCh e1 u1 e2 u2) (zs, ()) 0) (.pointer (some ⟨gc, 0, none⟩)) := by
  refine ⟨gc, 0, [.pointer p0, .pointer pl], hgz, rfl, fun j u hj => by rw [Nat.zero_add]; exact cell_of hg (by simpa using hj), [_], [_], rfl, ⟨p0, rfl, ?_⟩, _, rfl, rfl⟩
  have this : LkR (α := PaT u1 u2) w Fz 12 (fun x row => KI w Fz (tPa e1 u1 e2 u2) x row) (zs ++ []) p0 := seg_lk (Fz := Fz) (α := el (tPa e1 u1 e2 u2)) (n := 12) (K := fun x row => KI w Fz (tPa e1 u1 e2 u2) x row) (ys := []) (q := none) hf rfl (xs := zs) (p := p0) (rs := (List.range zs.length).map rows) ?_ hs
  · rw [List.append_nil] at this; exact this
  · have := all2_range (K := fun x (r : List Value) => KI w Fz (tPa e1 u1 e2 u2) x r ∧ r.length = 12) rows zs 0 fun i hi => by
      rw [Nat.zero_add]
      exact ⟨hK i hi, KI_len (hK i hi)⟩
    rw [← List.range_eq_range'] at this
    exact this
theorem ag_call (hP : E.P = Try.prog) (EOK : EnvOk E) (FOK : FnsOk E) (hmix : E.P.follows .mixedOrders = true) (RS : Rounds E e1 e2 u1 u2) (hra : resTys (noExt E) 137 = some [i1]) {w : World} {Fz : Nat → Prop} (hlt : ∀ b, Fz b → b < w.heap.size) {zs : List (PaT u1 u2)} {ys : List Tup7} (hy : ys.length ≤ 1048576) {c v : Value}
    (h1 : ACRep w (fun _ => none) Fz (.pr (tCh e1 u1 e2 u2) (zs, ()) 0) c) (h2 : KI w Fz (.sl 41 tEv) ys [v]) : Calls Try.prog 137 #[c, v] w fun e w' => e = .returned (.int .i64 (sameF zs ys)) ∧ Below w.heap.size w w' := by
  obtain ⟨K, hK⟩ := Ev.step (g := fun k => evalT (noExt E) k 137 i1 [.c (.pr (tCh e1 u1 e2 u2) (zs, ()) 0), .c (.sl 41 tEv ys)] []) (fun k => RS.ag k zs ys) (EvL.ev (L := fun k j => ag3 E e1 e2 u1 u2 k j ys ((0 : Nat) : Int) zs) (ag_ev RS ys hy zs 0))
  have sound := evalT_ok (E := noExt E) EOK FOK hmix (extOk fun _ => rfl) K 137 i1 _ [] _ (hK K (Nat.le_refl _)) [i1] hra w (fun _ => none) Fz #[c, v] (relOf hlt) ⟨h1, h2, trivial⟩
  have hrs : rsOf (noExt E) 137 [.c (.pr (tCh e1 u1 e2 u2) (zs, ()) 0), .c (.sl 41 tEv ys)] = [] := by unfold rsOf; cases Nat.beq ((noExt E).mode 137) 1 <;> rfl
  rw [hrs] at sound
  rw [← hP]
  refine sound.mono ?_
  rintro e w' ⟨u, rfl, hb⟩
  obtain ⟨rfl, h3, h4⟩ := int_back hb
  exact ⟨by simp, below_all h4 h3⟩
theorem ls_call (hP : E.P = Try.prog) (EOK : EnvOk E) (FOK : FnsOk E) (hmix : E.P.follows .mixedOrders = true) (RS : Rounds E e1 e2 u1 u2) (hrl : resTys (noExt E) 139 = some [.ow 96 (tPa e1 u1 e2 u2)]) {w : World} {Fz : Nat → Prop} (hlt : ∀ b, Fz b → b < w.heap.size) {zs : List (PaT u1 u2)} (hz : zs.length ≤ 1048576) {c : Value}
    (h1 : ACRep w (fun _ => none) Fz (.pr (tCh e1 u1 e2 u2) (zs, ()) 0) c) : Calls Try.prog 139 #[c] w fun e w' => ∃ u, e = .returned u ∧ Below w.heap.size w w' ∧ KI w' (fun b => Fz b ∨ (w.heap.size ≤ b ∧ b < w'.heap.size)) (.sl 96 (tPa e1 u1 e2 u2)) zs [u] := by
  obtain ⟨K, hK⟩ := Ev.step (g := fun k => evalT (noExt E) k 139 (.ow 96 (tPa e1 u1 e2 u2)) [.c (.pr (tCh e1 u1 e2 u2) (zs, ()) 0)] []) (fun k => RS.ls k zs) (EvL.ev (L := fun k j => ls3 E e1 e2 u1 u2 k j zs []) (ls_ev RS zs [] (by simpa using hz)))
  have sound := evalT_ok (E := noExt E) EOK FOK hmix (extOk fun _ => rfl) K 139 (.ow 96 (tPa e1 u1 e2 u2)) _ [] _ (hK K (Nat.le_refl _)) [.ow 96 (tPa e1 u1 e2 u2)] hrl w (fun _ => none) Fz #[c] (relOf hlt) ⟨h1, trivial⟩
  have hrs : rsOf (noExt E) 139 [.c (.pr (tCh e1 u1 e2 u2) (zs, ()) 0)] = [] := by unfold rsOf; cases Nat.beq ((noExt E).mode 139) 1 <;> rfl
  rw [hrs] at sound
  rw [← hP]
  refine sound.mono ?_
  rintro e w' ⟨u, rfl, hb⟩
  obtain ⟨h3, h4, h5⟩ := row_back hlt hb
  exact ⟨u, rfl, below_all h4 h3, h5⟩
end
section
variable {E : Env} {e1 e2 : Nat} {u1 u2 : Ty}
theorem back_to {w0 w : World} {ρ : Nat → Option Value} {Fz0 : Nat → Prop} {ts : List Ty} {τ : Ty} {x y : el τ} {v : Value} (h : x = y) (hb : Back w0 Fz0 [] ρ [] ts τ y v w) : Back w0 Fz0 [] ρ [] ts τ x v w := h ▸ hb
theorem inv_facts {w0 w : World} {rows : Nat → List Value} {n : Nat} (h : Inv w0 rows n w) : w0.heap.size < w.heap.size ∧ Below w0.heap.size w0 w ∧ ∃ p0 pl, w.heap[w0.heap.size]? = some (.cells #[.pointer p0, .pointer pl] 186 (0, 0)) ∧ Seg w (w0.heap.size + 1) w.heap.size 189 ((List.range n).map rows) p0 none := by
  obtain ⟨hB, hC⟩ := h
  obtain ⟨h1, p0, pl, h2, h3⟩ := chn_seg hC
  exact ⟨h1, hB, p0, pl, h2, h3⟩
theorem cut_done (hP : E.P = Try.prog) (EOK : EnvOk E) (FOK : FnsOk E) (hmix : E.P.follows .mixedOrders = true) (RS : Rounds E e1 e2 u1 u2) (hra : resTys (noExt E) 137 = some [i1]) (hrl : resTys (noExt E) 139 = some [.ow 96 (tPa e1 u1 e2 u2)]) (hres : resTys E 78 = some [tLa e1 u1 e2 u2, .bool]) :
    CutDone E 78 96 (tPa e1 u1 e2 u2) 41 tEv (.pair (tLa e1 u1 e2 u2) .bool) fun p a b d xs ys => cutF p a b d xs ys := by
  intro p a b d xs0 ys hx hy w0 ρ Fz0 v1 v2 R hk1 hk2 ts hts
  rw [hres] at hts
  cases hts
  let xs : List (PaT u1 u2) := xs0
  have hx : xs.length ≤ 1048576 := hx
  have hk1 : KI w0 Fz0 (.sl 96 (tPa e1 u1 e2 u2)) xs [v1] := hk1
  obtain ⟨A2, c2, hv2, _⟩ := id hk2
  obtain rfl : v2 = .slice A2 ys.length c2 := by simpa using hv2
  obtain ⟨A, c, hv, hc, hel⟩ := id hk1
  obtain rfl : v1 = .slice A xs.length c := (List.cons.inj hv).1
  have hrow : ∀ i, ∃ row : List Value, i < xs.length → ∃ (hi : i < xs.length) (g o : Nat), A = some ⟨g, o, none⟩ ∧ Fz0 g ∧ (∀ j u, row[j]? = some u → w0.cell? ⟨g, o + i * sz (tPa e1 u1 e2 u2) + j, none⟩ = some u) ∧ KI w0 Fz0 (tPa e1 u1 e2 u2) xs[i] row := fun i => by
    by_cases hi : i < xs.length
    · obtain ⟨g, o, row, h⟩ := hel i hi
      exact ⟨row, fun _ => ⟨hi, g, o, h⟩⟩
    · exact ⟨[], fun h => absurd h hi⟩
  let rows : Nat → List Value := fun i => Classical.choose (hrow i)
  have hrows : ∀ i, i < xs.length → ∃ (hi : i < xs.length) (g o : Nat), A = some ⟨g, o, none⟩ ∧ Fz0 g ∧ (∀ j u, (rows i)[j]? = some u → w0.cell? ⟨g, o + i * 12 + j, none⟩ = some u) ∧ KI w0 Fz0 (tPa e1 u1 e2 u2) xs[i] (rows i) := fun i hi => Classical.choose_spec (hrow i) hi
  clear_value rows
  clear hrow
  have hlt := R.fzlt
  obtain ⟨W0, hWe⟩ : ∃ W : World, W = (w0.alloc (.cells #[.int .i64 p, .int .i64 a, .int .i64 b, .int .i64 d, .slice A xs.length c] 32)).alloc (.cells #[.int .i64 0, .int .i64 0, .int .i64 0, .int .i64 0, .slice none 0 0] 32) := ⟨_, rfl⟩
  have hW0 : W0.heap.size = w0.heap.size + 2 := by rw [hWe]; simp
  have hWB : Below w0.heap.size w0 W0 := by rw [hWe]; exact ((Below.refl _ w0).alloc (Nat.le_refl _) _).alloc (by simp) _
  have hWl : W0.heap[w0.heap.size]? = some (.cells #[.int .i64 p, .int .i64 a, .int .i64 b, .int .i64 d, .slice A xs.length c] 32 (0, 0)) := by rw [hWe]; exact (Below.heap_alloc _ _ _ (by simp)).trans (alloc_new _ _)
  have hWr : W0.heap[w0.heap.size + 1]? = some (.cells #[.int .i64 0, .int .i64 0, .int .i64 0, .int .i64 0, .slice none 0 0] 32 (0, 0)) := by
    have := alloc_new (w0.alloc (.cells #[.int .i64 p, .int .i64 a, .int .i64 b, .int .i64 d, .slice A xs.length c] 32)) (.cells #[.int .i64 0, .int .i64 0, .int .i64 0, .int .i64 0, .slice none 0 0] 32)
    have e : (w0.alloc (.cells #[.int .i64 p, .int .i64 a, .int .i64 b, .int .i64 d, .slice A xs.length c] 32)).heap.size = w0.heap.size + 1 := by simp
    rw [e] at this
    rw [hWe]
    exact this
  have hmax : xs.length ≤ maxLen := by unfold maxLen; omega
  have hw := chainOf_w W0 A xs.length c rows hmax fun i hi => by
      obtain ⟨_, g, o, h1, h2, h3, h4⟩ := hrows i hi
      exact ⟨past_row h4, g, o, h1, Nat.lt_of_lt_of_le (hlt g h2) hWB.size, fun j u hj => (hWB.cell (p := ⟨g, o + i * 12 + j, none⟩) (hlt g h2)).trans (h3 j u hj)⟩
  have hKI : ∀ {w : World} {Fz : Nat → Prop}, (∀ b, Fz0 b → Fz b) → (∀ b, b < w0.heap.size → w.heap[b]? = w0.heap[b]?) → ∀ i (hi : i < xs.length), KI w Fz (tPa e1 u1 e2 u2) xs[i] (rows i) := fun hf hh i hi => by
    obtain ⟨_, _, _, _, _, _, h4⟩ := hrows i hi
    exact KI_mono (Fz := Fz0) hf (fun b hb => hh b (hlt b hb)) h4
  have hall : ∀ r ∈ (List.range xs.length).map rows, r.length = 12 := fun r hr => by
    obtain ⟨i, hi, rfl⟩ := List.mem_map.1 hr
    exact KI_len (hKI (w := w0) (fun _ h => h) (fun _ _ => rfl) i (List.mem_range.1 hi))
  have hsame : sameF xs ys ≤ xs.length := by
    have key : ∀ (l : List (PaT u1 u2)) (m : List Tup7), sameF l m ≤ l.length := by
      intro l
      induction l with
      | nil => intro m; exact Nat.le_refl _
      | cons x l ih =>
        intro m
        cases m with
        | nil => exact Nat.zero_le _
        | cons y m =>
          show (if x.1 = y then sameF l m + 1 else 0) ≤ l.length + 1
          have := ih m
          split <;> omega
    exact key xs ys
  generalize hsm : sameF xs ys = same at hsame
  have hbox : ∀ w, Below W0.heap.size W0 w → W0.heap.size < w.heap.size → Boxes w0.heap.size w p a b d (.slice A xs.length c) := fun w hB hs => ⟨by omega, (hB.block _ (by omega)).trans hWl, (hB.block _ (by omega)).trans hWr⟩
  rw [hP]
  refine laneCut_w w0 p a b d A A2 xs.length c ys.length c2 same hx hsame (fun en w => ∃ u, en = .returned u ∧ Back w0 Fz0 [] ρ [] [tLa e1 u1 e2 u2, .bool] (.pair (tLa e1 u1 e2 u2) .bool) (cutF p a b d xs ys) u w)
    (Inv W0 rows xs.length) (fun w3 => same < xs.length ∧ Below W0.heap.size W0 w3 ∧ ∃ hi q0 ql, hi ≤ w3.heap.size ∧ W0.heap.size < hi ∧ w3.heap[W0.heap.size]? = some (.cells #[.pointer q0, .pointer ql] 186 (0, 0)) ∧ Seg w3 (W0.heap.size + 1) hi 189 (((List.range xs.length).map rows).take same) q0 none)
    (fun w w' => Below (w.heap.size + 1) (w.alloc (.cells #[.pointer (some ⟨W0.heap.size, 0, none⟩)] 159)) w') ?_ ?_ ?_ ?_ ?_ ?_ ?_ ?_
  · intro w hI
    obtain ⟨h1, hB, _⟩ := inv_facts hI
    exact hbox w hB h1
  · intro w w' hI h2
    obtain ⟨h1, hB, _⟩ := inv_facts hI
    have hs := h2.size
    simp at hs
    exact hbox w' ((hB.alloc (by omega) _).trans (h2.mono (by omega))) (by omega)
  · rintro w ⟨_, hB, hi, _, _, h1, h2, _⟩
    exact hbox w hB (by omega)
  · have hw' := hw
    rw [← hWe, ← hW0]
    exact hw'
  · intro w hI
    obtain ⟨h1, hB, p0, pl, hg, hs⟩ := inv_facts hI
    have hsz : (w.alloc (.cells #[.pointer (some ⟨W0.heap.size, 0, none⟩)] 159)).heap.size = w.heap.size + 1 := by simp
    have hBa := hB.alloc (Nat.le_of_lt h1) (.cells #[.pointer (some ⟨W0.heap.size, 0, none⟩)] 159)
    have hf0 : ∀ b, b < w0.heap.size → (w.alloc (.cells #[.pointer (some ⟨W0.heap.size, 0, none⟩)] 159)).heap[b]? = w0.heap[b]? := fun b hb => (hBa.block b (by omega)).trans (hWB.block b hb)
    have hlt2 : ∀ b, (Fz0 b ∨ (w0.heap.size ≤ b ∧ b < w.heap.size + 1)) → b < (w.alloc (.cells #[.pointer (some ⟨W0.heap.size, 0, none⟩)] 159)).heap.size := fun b hb => by
      rw [hsz]
      rcases hb with hb | hb
      · have := hlt b hb; have := hWB.size; omega
      · exact hb.2
    have hk := ch_rep (ρ := fun _ => none) (e1 := e1) (e2 := e2) (zs := xs) (rows := rows) (Fz := fun b => Fz0 b ∨ (w0.heap.size ≤ b ∧ b < w.heap.size + 1)) (w := w.alloc (.cells #[.pointer (some ⟨W0.heap.size, 0, none⟩)] 159)) (gc := W0.heap.size) (hi := w.heap.size) (.inr ⟨by omega, by omega⟩) ((Below.heap_alloc _ _ _ h1).trans hg) (fun b h2 h3 => .inr ⟨by omega, by omega⟩)
      (hs.mono (fun g _ h3 => Below.heap_alloc _ _ _ h3) (Nat.le_refl _)) (hKI (fun b hb => .inl hb) hf0)
    have := ag_call hP EOK FOK hmix RS hra hlt2 hy hk (KI_mono (Fz := Fz0) (fun b hb => .inl hb) (fun b hb => hf0 b (hlt b hb)) hk2)
    rw [hsm, hsz, hW0] at this
    rw [hW0]
    exact this
  · intro hn w w' w'' hI h2 h3
    obtain ⟨h1, hB, p0, pl, hg, hs⟩ := inv_facts hI
    have hBw : Below w0.heap.size w0 w'' := ((hWB.trans (hB.mono (by omega))).trans (((Below.refl w0.heap.size w).alloc (by omega) _).trans (h2.mono (by omega)))).trans h3.1
    refine ⟨_, rfl, ?_⟩
    have hcf : cutF p a b d xs ys = ((p, (a, b, d), xs), false) := by unfold cutF; rw [hsm, hn]; simp
    exact back_to hcf (fin_back hlt hBw (KI_mono (Fz := Fz0) (fun b hb => .inl hb) (fun b hb => hBw.block b (hlt b hb)) hk1))
  · intro hn w w' hI h2
    obtain ⟨h1, hB, p0, pl, hg, hs⟩ := inv_facts hI
    have hs2 := h2.size
    have hsz : (w.alloc (.cells #[.pointer (some ⟨W0.heap.size, 0, none⟩)] 159)).heap.size = w.heap.size + 1 := by simp
    have hk : ∀ k, k < w.heap.size → w'.heap[k]? = w.heap[k]? := fun k hk => (h2.block k (by omega)).trans (Below.heap_alloc _ _ _ hk)
    have hbx : w'.heap[w.heap.size]? = some (.cells #[.pointer (some ⟨W0.heap.size, 0, none⟩)] 159 (0, 0)) := (h2.block _ (by omega)).trans (alloc_new _ _)
    have := undo_w w' W0.heap.size w.heap.size w.heap.size same ((List.range xs.length).map rows) p0 pl h1 (by omega) (by simpa using hn) (by omega) hall (by omega) (cell_of hbx rfl) ((hk _ h1).trans hg) (hs.mono (fun g _ h3 => hk g h3) (Nat.le_refl _))
    refine this.mono ?_
    rintro e w3 ⟨rfl, hB3, q0, ql, hg3, hs3⟩
    exact ⟨rfl, hn, (hB.trans (((Below.refl W0.heap.size w).alloc (Nat.le_of_lt h1) _).trans (h2.mono (by omega)))).trans hB3, w.heap.size, q0, ql, by have := hB3.size; omega, h1, hg3, hs3⟩
  · rintro w3 ⟨hc, hB, hi, q0, ql, h1, h2, hg, hs⟩
    have hf0 : ∀ b, b < w0.heap.size → w3.heap[b]? = w0.heap[b]? := fun b hb => (hB.block b (by omega)).trans (hWB.block b hb)
    have hlt2 : ∀ b, (Fz0 b ∨ (W0.heap.size ≤ b ∧ b < w3.heap.size)) → b < w3.heap.size := fun b hb => by
      rcases hb with hb | hb
      · have := hlt b hb; have := hB.size; omega
      · exact hb.2
    have hlen : (xs.take same).length = same := by rw [List.length_take]; omega
    have hrw : ((List.range xs.length).map rows).take same = (List.range (xs.take same).length).map rows := by rw [← List.map_take, List.take_range, hlen, Nat.min_eq_left hsame]
    rw [hrw] at hs
    have hk := ch_rep (ρ := fun _ => none) (e1 := e1) (e2 := e2) (zs := xs.take same) (rows := rows) (Fz := fun b => Fz0 b ∨ (W0.heap.size ≤ b ∧ b < w3.heap.size)) (w := w3) (gc := W0.heap.size) (hi := hi) (.inr ⟨Nat.le_refl _, by omega⟩) hg (fun b h2 h3 => .inr ⟨by omega, by omega⟩) hs
      (fun i hi => by rw [List.getElem_take]; exact hKI (fun b hb => .inl hb) hf0 i (by omega))
    have := ls_call hP EOK FOK hmix RS hrl hlt2 (by omega) hk
    rw [← hW0]
    refine this.mono ?_
    rintro e w4 ⟨u, rfl, hB4, hk4⟩
    obtain ⟨q, r, hu, _⟩ := id hk4
    obtain rfl : u = .slice q (xs.take same).length r := (List.cons.inj hu).1
    have h4s := hB4.size
    have hB4' : Below W0.heap.size W0 w4 := hB.trans (hB4.mono (by omega))
    refine ⟨_, _, _, rfl, hbox w4 hB4' (by omega), fun w'' h5 => ⟨_, rfl, ?_⟩⟩
    have hBw : Below w0.heap.size w0 w'' := (hWB.trans (hB4'.mono (by omega))).trans h5.1
    have h5s := h5.2.1
    have hcf : cutF p a b d xs ys = ((p, (a, b, d), xs.take same), true) := by unfold cutF; rw [hsm, decide_eq_true hc]
    refine back_to hcf (fin_back hlt hBw ?_)
    refine KI_mono (Fz := fun b => (Fz0 b ∨ (W0.heap.size ≤ b ∧ b < w3.heap.size)) ∨ (w3.heap.size ≤ b ∧ b < w4.heap.size)) (fun b hb => ?_) (fun b hb => ?_) hk4
    · rcases hb with (hb | hb) | hb
      · exact .inl hb
      · exact .inr ⟨by omega, by omega⟩
      · have := hB.size; exact .inr ⟨by omega, by omega⟩
    · rcases hb with (hb | hb) | hb
      · exact h5.1.block b (hlt b hb)
      · exact h5.2.2 b (by omega)
      · have := hB.size; exact h5.2.2 b (by omega)
end
end Go.Proofs.YtjgpacfhokpfdaaCut
