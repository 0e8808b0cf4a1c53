/- The statement FnExactSlotOk over numbers and lists alone: what is to be proved of the printed functions. No condition of ours. -/
import Derived.Test.YtbgibmngijomfaaXSlotOkx4
namespace Go.Proofs.Ytbgibmngijomfaa.XSlotOk
open Go.RowKit Go.Proofs.YtbgibmngijomfaaW.PrintWords

def laws_FnExactSlotOk.Goal : Prop := ∀ (a0_0 : Int), ∀ (a0_1 : Int), ∀ (l0_2 : List (List (Int))), ∀ (a0_3 : Int), ∀ (a0_4 : Int), ∀ (l0_5 : List (List (Int))), ((Lit.int .i64 a0_0).wf = true) → ((Lit.int .i64 a0_1).wf = true) → (l0_2.length ≤ maxLen ∧ ∀ z0_ ∈ l0_2, z0_.length ≤ maxLen ∧ ∀ z1_ ∈ z0_, (Lit.int .i64 z1_).wf = true) → ((Lit.int .i64 a0_3).wf = true) → ((Lit.int .i64 a0_4).wf = true) → (l0_5.length ≤ maxLen ∧ ∀ z0_ ∈ l0_5, z0_.length ≤ maxLen ∧ ∀ z1_ ∈ z0_, (Lit.int .i64 z1_).wf = true) → ∃ k, laws_FnExactSlotOk.f k a0_0 a0_1 l0_2 a0_3 a0_4 l0_5 = some true

end Go.Proofs.Ytbgibmngijomfaa.XSlotOk
