/- Small words beside the print's own: a whole array in its block, read as a row. Any program. -/
import Derived.Test.YtbgibmngijomfaaWMore
set_option linter.unusedVariables false
namespace Go.Proofs.YtbgibmngijomfaaW.PrintWords
open Go Go.RowKit

/-- A whole array in its block, read as a row. -/
theorem arr_reads {w : World} {b t : Nat} {xs : List Int} (h : w.heap[b]? = some (.cells (nums .i64 xs).toArray t (0, 0))) (hl : xs.length ≤ 9223372036854775807) : Kd.C (Kd.int .i64) w (some ⟨b, 0, none⟩) xs.length xs := by
  refine ⟨rfl, hl, fun _ => ⟨_, rfl, fun j p hj => ⟨[.int .i64 p], rfl, rfl, fun i u hi => ?_⟩⟩⟩
  have hi0 : i = 0 := by
    have := (List.getElem?_eq_some_iff.1 hi).1
    simp at this; exact this
  subst hi0
  simp at hi
  subst hi
  rw [add_plain]
  have : w.cell? ⟨b, j * (Kd.int .i64).sz + 0, none⟩ = (nums .i64 xs).toArray[j]? := by
    simp [World.cell?, h, Kd.int, Kd.scalar]
  rw [this]
  simp [nums, hj]
theorem alloc2 (w : World) (o1 o2 : Obj) : ((w.alloc o1).alloc o2).heap[w.heap.size]? = some o1 ∧ ((w.alloc o1).alloc o2).heap[w.heap.size + 1]? = some o2 :=
  ⟨blk_alloc (blk_new w o1) o2, by have := blk_new (w.alloc o1) o2; rwa [World.size_alloc] at this⟩
theorem alloc4 (w : World) (o1 o2 o3 o4 : Obj) : ((((w.alloc o1).alloc o2).alloc o3).alloc o4).heap[w.heap.size + 1 + 1]? = some o3 ∧ ((((w.alloc o1).alloc o2).alloc o3).alloc o4).heap[w.heap.size + 1 + 1 + 1]? = some o4 := by
  have h := alloc2 ((w.alloc o1).alloc o2) o3 o4
  rwa [World.size_alloc, World.size_alloc] at h
theorem below_alloc2 (w : World) (o1 o2 : Obj) : Below w.heap.size w ((w.alloc o1).alloc o2) := ((Below.refl _ _).alloc (Nat.le_refl _) _).alloc (by rw [World.size_alloc]; omega) _
theorem below_alloc4 (w : World) (o1 o2 o3 o4 : Obj) : Below w.heap.size w ((((w.alloc o1).alloc o2).alloc o3).alloc o4) := ((below_alloc2 w o1 o2).alloc (by rw [World.size_alloc, World.size_alloc]; omega) _).alloc (by rw [World.size_alloc, World.size_alloc, World.size_alloc]; omega) _
theorem cell_of_blk {w : World} {b t : Nat} {cs : Array Value} (h : w.heap[b]? = some (.cells cs t (0, 0))) (j : Nat) : w.cell? ⟨b, j, none⟩ = cs[j]? := by simp [World.cell?, h]
theorem un_drew {W w1 : World} (h : Below W.drew.heap.size W.drew w1) : Below W.heap.size W w1 := ⟨h.os, h.tape, h.output, h.size, h.block⟩

end Go.Proofs.YtbgibmngijomfaaW.PrintWords
