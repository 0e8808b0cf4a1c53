/- Small words beside the print's own: a whole array in its block, read as a row. Any program. -/
import Derived.Test.YtbgibmngijomfaaWMore
import Derived.Deep.QuietTactic
set_option linter.unusedVariables false
namespace Go.Proofs.YtbgibmngijomfaaW.PrintWords
open Go Go.RowKit Go.Proofs.YtbgibmngijomfaaW.PrintLast

abbrev Y : Bool := true
abbrev O : Bool := false
theorem sA {α : Type} {l : List α} {i : Nat} {a : α} : l.toArray.setIfInBounds i a = (l.set i a).toArray := by simp
theorem sB {α : Type} {a b : α} {l : List α} : (a :: l).set 0 b = b :: l := rfl
theorem sC {α : Type} {a b : α} {l : List α} {n : Nat} : (a :: l).set (n + 1) b = a :: l.set n b := rfl
/-- A whole array in its block, read as a row. -/
theorem arr_reads {w : World} {b t : Nat} {xs : List Int} (h : w.heap[b]? = some (.cells (nums .i64 xs).toArray t (0, 0))) (hl : xs.length ≤ 9223372036854775807) : Kd.C (Kd.int .i64) w (some ⟨b, 0, none⟩) xs.length xs := by
  refine ⟨rfl, hl, fun _ => ⟨_, rfl, fun j p hj => ⟨[.int .i64 p], rfl, rfl, fun i u hi => ?_⟩⟩⟩
  have hi0 : i = 0 := by
    have := (List.getElem?_eq_some_iff.1 hi).1
    simp at this; exact this
  subst hi0
  simp at hi
  subst hi
  rw [add_plain]
  have : w.cell? ⟨b, j * (Kd.int .i64).sz + 0, none⟩ = (nums .i64 xs).toArray[j]? := by
    simp [World.cell?, h, Kd.int, Kd.scalar]
  rw [this]
  simp [nums, hj]
theorem alloc2 (w : World) (o1 o2 : Obj) : ((w.alloc o1).alloc o2).heap[w.heap.size]? = some o1 ∧ ((w.alloc o1).alloc o2).heap[w.heap.size + 1]? = some o2 :=
  ⟨blk_alloc (blk_new w o1) o2, by have := blk_new (w.alloc o1) o2; rwa [World.size_alloc] at this⟩
theorem alloc4 (w : World) (o1 o2 o3 o4 : Obj) : ((((w.alloc o1).alloc o2).alloc o3).alloc o4).heap[w.heap.size + 1 + 1]? = some o3 ∧ ((((w.alloc o1).alloc o2).alloc o3).alloc o4).heap[w.heap.size + 1 + 1 + 1]? = some o4 := by
  have h := alloc2 ((w.alloc o1).alloc o2) o3 o4
  rwa [World.size_alloc, World.size_alloc] at h
theorem below_alloc2 (w : World) (o1 o2 : Obj) : Below w.heap.size w ((w.alloc o1).alloc o2) := ((Below.refl _ _).alloc (Nat.le_refl _) _).alloc (by rw [World.size_alloc]; omega) _
theorem below_alloc4 (w : World) (o1 o2 o3 o4 : Obj) : Below w.heap.size w ((((w.alloc o1).alloc o2).alloc o3).alloc o4) := ((below_alloc2 w o1 o2).alloc (by rw [World.size_alloc, World.size_alloc]; omega) _).alloc (by rw [World.size_alloc, World.size_alloc, World.size_alloc]; omega) _
theorem cell_of_blk {w : World} {b t : Nat} {cs : Array Value} (h : w.heap[b]? = some (.cells cs t (0, 0))) (j : Nat) : w.cell? ⟨b, j, none⟩ = cs[j]? := by simp [World.cell?, h]
theorem un_drew {W w1 : World} (h : Below W.drew.heap.size W.drew w1) : Below W.heap.size W w1 := ⟨h.os, h.tape, h.output, h.size, h.block⟩

/-! ### A region that draws its order, whose operations read, and whose callees answer the same in every later world: one walk in the text's order -/
section
variable {P : Program} {ops : Array Oper} {C : World → Prop} {Q : Act → Prop} {o : Oper} {rest : List Oper} {a a' : Act} {v : Value}
theorem xq_draws {id : Nat} {Q : Exit → Act → World → Prop} {a : Act} {w : World} {l : List Oper} (hm : P.follows .mixedOrders = true) (hB : Region.lexB .any l.toArray = true)
    (h : Below w.drew.heap.size w.drew w.drew → wpQuiet P l.toArray (fun w' => ∃ n, w' = w.drew.drewN n) (fun a' => ∀ w', (∃ n, w' = w.drew.drewN n) → Q .normal a' w') l a) : (Code.region id l.toArray true).wp P Q a w :=
  wp_region_quiet (C := fun w' => ∃ n, w' = w.drew.drewN n) hm hB ⟨0, rfl⟩ (by simpa using h (Below.refl _ _))
theorem xq_below {id : Nat} {Q : Exit → Act → World → Prop} {a : Act} {w : World} {l : List Oper} (hm : P.follows .mixedOrders = true) (hB : Region.lexB .any l.toArray = true)
    (h : Below w.drew.heap.size w.drew w.drew → wpQuiet P l.toArray (fun w' => Below w.drew.heap.size w.drew w') (fun a' => ∀ w', Below w.drew.heap.size w.drew w' → Q .normal a' w') l a) : (Code.region id l.toArray true).wp P Q a w :=
  wp_region_quiet (C := fun w' => Below w.drew.heap.size w.drew w') hm hB (Below.refl _ _) (by simpa using h (Below.refl _ _))
theorem xq_skip (hw : Region.wanted o (yielded ops a.tmps) = false) (ha : a.put o.dst undef = a') (h : wpQuiet P ops C Q rest a') : wpQuiet P ops C Q (o :: rest) a := by
  subst ha
  unfold wpQuiet
  rw [if_neg (by rw [hw]; decide)]
  exact h
theorem xq_val (hw : Region.wanted o (yielded ops a.tmps) = true) (hv : ∀ w', C w' → (execOp a.eval o).run P w' = .ok (.value v) w') (ha : a.put o.dst v = a') (h : wpQuiet P ops C Q rest a') : wpQuiet P ops C Q (o :: rest) a := by
  subst ha
  unfold wpQuiet
  rw [if_pos hw]
  refine ⟨v, fun w' hC => ?_, h⟩
  unfold Oper.quietAt
  rw [hv w' hC]
  exact ⟨rfl, rfl⟩
theorem xq_call {f : FuncId} {fn : Func} {as : Array Operand} {ts : Array TypeId} (hf : P.funcs[f]? = some fn) (hname : (fn.name == "runtime.NumGoroutine") = false) (hb : fn.body.isSome = true) (args : Array Value)
    (hw : Region.wanted o (yielded ops a.tmps) = true) (hop : o.op = .call { callee := .value (.func f), args := as, argTypes := ts }) (hargs : as.map a.eval = args)
    (h : ∃ v, (∀ w', C w' → Calls P f args w' fun e w'' => e = .returned v ∧ C w'') ∧ ∃ a', a.put o.dst v = a' ∧ wpQuiet P ops C Q rest a') : wpQuiet P ops C Q (o :: rest) a := by
  obtain ⟨v, hc, a', ha, h⟩ := h
  subst ha
  unfold wpQuiet
  rw [if_pos hw]
  refine ⟨v, fun w' hC => ?_, h⟩
  have he := enters_ hf hname hb args w'
  have hrun : (execOp a.eval o).run P w' = .ok (.enter f args) w' := by
    unfold execOp
    simp [hop, resolve, Deferred.ofValue, invoke, Act.eval, hargs, he]
  unfold Oper.quietAt
  rw [hrun]
  exact ⟨rfl, hc w' hC⟩
end

end Go.Proofs.YtbgibmngijomfaaW.PrintWords
