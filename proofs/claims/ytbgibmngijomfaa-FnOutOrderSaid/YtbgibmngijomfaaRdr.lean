/- What is read as data is told as values: numbers, bools, strings, rows of what is told so. Any program. -/
import Derived.Test.YtbgibmngijomfaaWMore
import Derived.ChangeArms
import Derived.DataElems
namespace Go.Proofs.YtbgibmngijomfaaR
open Go Go.RowKit Go.Proofs.YtbgibmngijomfaaW.PrintWords

structure Rdr (P : Program) (t : TypeId) {α : Type} (d : Kd α) (G : α → Prop) : Prop where
  rd : ∀ {H : Type} (enc : TypeId × Value → H) (w : World) (fuel : Nat) (cs : List Value) (y : DataW H × List MemPlace), DataW.trod enc P w 0 (fun _ => true) true fuel t cs = some y → ∃ x, d.K w x cs ∧ G x

theorem rdr_int {P : Program} {t : TypeId} {k : IntKind} (hu : P.underlying t = some (.int k)) : Rdr P t (Kd.int k) (fun n => (Lit.int k n).wf = true) := ⟨by
  intro H enc w fuel cs y h
  obtain ⟨n, rfl, _, hw⟩ := DataW.trod_int hu h
  exact ⟨n, rfl, hw⟩⟩
theorem rdr_bool {P : Program} {t : TypeId} (hu : P.underlying t = some .bool) : Rdr P t Kd.bool (fun _ => True) := ⟨by
  intro H enc w fuel cs y h
  obtain ⟨n, rfl, _⟩ := DataW.trod_bool hu h
  exact ⟨n, rfl, trivial⟩⟩
theorem rdr_string {P : Program} {t : TypeId} (hu : P.underlying t = some .string) : Rdr P t Kd.string (fun s => s.size ≤ maxLen) := ⟨by
  intro H enc w fuel cs y h
  obtain ⟨n, rfl, _, hs⟩ := DataW.trod_string hu h
  exact ⟨n, rfl, hs⟩⟩

theorem list_choice {α : Type} (p : Nat → α → Prop) : ∀ n : Nat, (∀ i, i < n → ∃ x, p i x) → ∃ xs : List α, xs.length = n ∧ ∀ i x, xs[i]? = some x → p i x
  | 0, _ => ⟨[], rfl, fun i x h => by simp at h⟩
  | n + 1, h => by
    obtain ⟨xs, hl, hx⟩ := list_choice p n (fun i hi => h i (by omega))
    obtain ⟨x, hp⟩ := h n (by omega)
    refine ⟨xs ++ [x], by simp [hl], fun i z hz => ?_⟩
    rcases Nat.lt_or_ge i xs.length with hi | hi
    · rw [List.getElem?_append_left hi] at hz
      exact hx i z hz
    · have hlt := (List.getElem?_eq_some_iff.1 hz).1
      simp at hlt
      obtain rfl : i = n := by omega
      rw [List.getElem?_append_right hi] at hz
      have : x = z := by simpa [hl] using hz
      exact this ▸ hp

theorem rdr_slice {P : Program} {t e : TypeId} {α : Type} {d : Kd α} {G : α → Prop} (q : Nat) (hu : P.underlying t = some (.slice e)) (hs : P.cellsOf e = d.sz) (he : Rdr P e d G) :
    Rdr P t (Kd.slice q d) (fun xs => xs.length ≤ maxLen ∧ ∀ x ∈ xs, G x) := ⟨by
  intro H enc w fuel cs y h
  rcases DataW.trod_slice hu h with ⟨rfl, _⟩ | ⟨a, len, cap, elems, rest, n, _, rfl, _, _, hl, hc, hel, hget, _⟩
  · exact ⟨[], ⟨none, 0, rfl, Nat.le_refl _, rfl, by simp, fun h => absurd h (by simp)⟩, by simp, fun x hx => by simp at hx⟩
  · have hx : ∀ i, i < len → ∃ x, (∃ c, c.length = d.sz ∧ d.K w x c ∧ ∀ j u, c[j]? = some u → w.cell? (a.add (i * d.sz + j)) = some u) ∧ G x := by
      intro i hi
      have h1 := hget i hi
      rw [List.getElem?_eq_getElem (by omega : i < elems.length)] at h1
      obtain ⟨c, hcell, htr⟩ := Option.bind_eq_some_iff.1 h1
      obtain ⟨x, hK, hG⟩ := he.rd enc w n c _ htr
      refine ⟨x, ⟨c, d.K_len hK, hK, fun j u hj => ?_⟩, hG⟩
      unfold World.cells? at hcell
      rw [if_pos (Nat.zero_le _), hs] at hcell
      have hlen := mapM_some_length hcell
      have hjl := (List.getElem?_eq_some_iff.1 hj).1
      have := mapM_some_get hcell j j (by rw [List.getElem?_range]; simp at hlen; omega)
      rw [Addr.add_add] at this
      rw [this]
      exact hj
    obtain ⟨xs, hxl, hxs⟩ := list_choice _ len hx
    refine ⟨xs, ⟨some a, cap, by rw [hxl], by omega, rfl, ?_, fun _ => ⟨a, rfl, fun j p hj => (hxs j p hj).1⟩⟩, ?_, ?_⟩
    · unfold maxLen at hc; omega
    · omega
    · intro x hx
      obtain ⟨j, hj⟩ := List.getElem?_of_mem hx
      exact (hxs j x hj).2⟩

end Go.Proofs.YtbgibmngijomfaaR
