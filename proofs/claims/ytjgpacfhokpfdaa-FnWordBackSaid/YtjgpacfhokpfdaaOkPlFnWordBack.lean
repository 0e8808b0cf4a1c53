/- What answers, in the end, something of which a thing is so. -/
import Derived.Test.YtjgpacfhokpfdaaFFnWordBack
import Derived.Test.YtjgpacfhokpfdaaPl
set_option linter.unusedVariables false
namespace Go.Proofs.Ytjgpacfhokpfdaa.SFnWordBack
open Go Go.Sx Go.Pl
theorem nt {b : Bool} (h : (!b) = true) : b = false := by cases b <;> first | rfl | cases h

theorem nf {b : Bool} (h : (!b) = false) : b = true := by cases b <;> first | rfl | cases h

/-- From some number of rounds on it answers something of which P is so. -/
def Ok {β : Type} (f : Nat → Option β) (P : β → Prop) : Prop := ∃ b, Ev f b ∧ P b

theorem Ok.bind {β γ : Type} {g : Nat → Option β} {f : Nat → β → Option γ} {P : β → Prop} {Q : γ → Prop} (hg : Ok g P) (hf : ∀ b, P b → Ok (fun k => f k b) Q) : Ok (fun k => (g k).bind (f k)) Q := by
  obtain ⟨b, h1, h2⟩ := hg
  obtain ⟨c, h3, h4⟩ := hf b h2
  exact ⟨c, Ev.bind h1 h3, h4⟩

theorem Ok.cond {β : Type} {c : Bool} {g f : Nat → Option β} {Q : β → Prop} (h1 : c = true → Ok g Q) (h2 : c = false → Ok f Q) : Ok (fun k => _root_.cond c (g k) (f k)) Q := by
  cases c with
  | true => exact h1 rfl
  | false => exact h2 rfl

theorem Ok.chk {β : Type} {c : Prop} [Decidable c] {g : Nat → Option β} {Q : β → Prop} (h : c) (h1 : Ok g Q) : Ok (fun k => _root_.cond (decide c) (g k) none) Q := by
  rw [decide_eq_true h]
  exact h1

theorem Ok.some {β : Type} {b : β} {Q : β → Prop} (h : Q b) : Ok (fun _ => Option.some b) Q := ⟨b, Ev.now b, h⟩

theorem Ok.step {β : Type} {g f : Nat → Option β} {Q : β → Prop} (h : ∀ k, g (k + 1) = f k) (hf : Ok f Q) : Ok g Q := by
  obtain ⟨b, h1, h2⟩ := hf
  exact ⟨b, Ev.step h h1, h2⟩

theorem Ok.imp {β : Type} {g : Nat → Option β} {P Q : β → Prop} (hg : Ok g P) (h : ∀ b, P b → Q b) : Ok g Q := by
  obtain ⟨b, h1, h2⟩ := hg
  exact ⟨b, h1, h b h2⟩

/-- The same, where a loop's rounds are counted beside. -/
def OkL {β : Type} (L : Nat → Nat → Option β) (P : β → Prop) : Prop := ∃ b, EvL L b ∧ P b

theorem OkL.step {β : Type} {L M : Nat → Nat → Option β} {P : β → Prop} (h : ∀ k j, L k (j + 1) = M k j) (hM : OkL M P) : OkL L P := by
  obtain ⟨b, h1, h2⟩ := hM
  exact ⟨b, EvL.step h h1, h2⟩

theorem OkL.bind {β γ : Type} {g : Nat → Option γ} {M : Nat → Nat → γ → Option β} {P : γ → Prop} {Q : β → Prop} (hg : Ok g P) (hf : ∀ c, P c → OkL (fun k j => M k j c) Q) : OkL (fun k j => (g k).bind (M k j)) Q := by
  obtain ⟨c, h1, h2⟩ := hg
  obtain ⟨b, h3, h4⟩ := hf c h2
  exact ⟨b, EvL.bind h1 h3, h4⟩

theorem OkL.cond {β : Type} {c : Bool} {g f : Nat → Nat → Option β} {Q : β → Prop} (h1 : c = true → OkL g Q) (h2 : c = false → OkL f Q) : OkL (fun k j => _root_.cond c (g k j) (f k j)) Q := by
  cases c with
  | true => exact h1 rfl
  | false => exact h2 rfl

theorem OkL.chk {β : Type} {c : Prop} [Decidable c] {g : Nat → Nat → Option β} {Q : β → Prop} (h : c) (h1 : OkL g Q) : OkL (fun k j => _root_.cond (decide c) (g k j) none) Q := by
  rw [decide_eq_true h]
  exact h1

theorem OkL.some {β : Type} {b : β} {Q : β → Prop} (h : Q b) : OkL (fun _ _ => Option.some b) Q := ⟨b, EvL.now b, h⟩

theorem OkL.of {β : Type} {g : Nat → Option β} {Q : β → Prop} (h : Ok g Q) : OkL (fun k _ => g k) Q := by
  obtain ⟨b, h1, h2⟩ := h
  exact ⟨b, Ev.L h1, h2⟩

theorem OkL.ok {β : Type} {L : Nat → Nat → Option β} {P : β → Prop} (h : OkL L P) : Ok (fun k => L k k) P := by
  obtain ⟨b, h1, h2⟩ := h
  exact ⟨b, EvL.ev h1, h2⟩

theorem OkL.imp {β : Type} {L : Nat → Nat → Option β} {P Q : β → Prop} (h : OkL L P) (hi : ∀ b, P b → Q b) : OkL L Q := by
  obtain ⟨b, h1, h2⟩ := h
  exact ⟨b, h1, hi b h2⟩

/-- The same, in a loop within a loop. -/
def Ok3 {β : Type} (L : Nat → Nat → Nat → Option β) (P : β → Prop) : Prop := ∃ b, (∃ K, ∀ k, K ≤ k → ∀ i, K ≤ i → ∀ j, K ≤ j → L k i j = Option.some b) ∧ P b

theorem Ok3.step {β : Type} {L M : Nat → Nat → Nat → Option β} {P : β → Prop} (h : ∀ k i j, L k i (j + 1) = M k i j) (hM : Ok3 M P) : Ok3 L P := by
  obtain ⟨b, ⟨K, hK⟩, h2⟩ := hM
  refine ⟨b, ⟨K + 1, fun k hk i hi j hj => ?_⟩, h2⟩
  obtain ⟨m, rfl⟩ : ∃ m, j = m + 1 := ⟨j - 1, by omega⟩
  rw [h k i m]
  exact hK k (by omega) i (by omega) m (by omega)

theorem Ok3.bind {β γ : Type} {g : Nat → Option γ} {M : Nat → Nat → Nat → γ → Option β} {P : γ → Prop} {Q : β → Prop} (hg : Ok g P) (hf : ∀ c, P c → Ok3 (fun k i j => M k i j c) Q) : Ok3 (fun k i j => (g k).bind (M k i j)) Q := by
  obtain ⟨c, ⟨K, hK⟩, h2⟩ := hg
  obtain ⟨b, ⟨K', hK'⟩, h4⟩ := hf c h2
  refine ⟨b, ⟨max K K', fun k hk i hi j hj => ?_⟩, h4⟩
  show (g k).bind (M k i j) = Option.some b
  rw [hK k (by omega)]
  exact hK' k (by omega) i (by omega) j (by omega)

theorem Ok3.cond {β : Type} {c : Bool} {g f : Nat → Nat → Nat → Option β} {Q : β → Prop} (h1 : c = true → Ok3 g Q) (h2 : c = false → Ok3 f Q) : Ok3 (fun k i j => _root_.cond c (g k i j) (f k i j)) Q := by
  cases c with
  | true => exact h1 rfl
  | false => exact h2 rfl

theorem Ok3.chk {β : Type} {c : Prop} [Decidable c] {g : Nat → Nat → Nat → Option β} {Q : β → Prop} (h : c) (h1 : Ok3 g Q) : Ok3 (fun k i j => _root_.cond (decide c) (g k i j) none) Q := by
  rw [decide_eq_true h]
  exact h1

theorem Ok3.out {β : Type} {M : Nat → Nat → Option β} {Q : β → Prop} (h : OkL M Q) : Ok3 (fun k i _ => M k i) Q := by
  obtain ⟨b, ⟨K, hK⟩, h2⟩ := h
  exact ⟨b, ⟨K, fun k hk i hi _ _ => hK k hk i hi⟩, h2⟩

theorem Ok3.inn {β : Type} {L : Nat → Nat → Nat → Option β} {Q : β → Prop} (h : Ok3 L Q) : OkL (fun k i => L k i k) Q := by
  obtain ⟨b, ⟨K, hK⟩, h2⟩ := h
  exact ⟨b, ⟨K, fun k hk i hi => hK k hk i hi k hk⟩, h2⟩
end Go.Proofs.Ytjgpacfhokpfdaa.SFnWordBack
