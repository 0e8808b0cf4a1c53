/- The statement FnExactAppOk over numbers and lists alone: what is to be proved of the printed functions. No condition of ours. -/
import Derived.Test.YtagkoaalbapnmaaXAppOkx11
namespace Go.Proofs.Ytagkoaalbapnmaa.XAppOk
open Go.RowKit Go.Proofs.YtagkoaalbapnmaaW.PrintWords

def Good140 (x : S140) : Prop := ((Lit.int .i64 x.f0).wf = true) ∧ ((Lit.int .i64 x.f1).wf = true) ∧ ((Lit.int .i64 x.f2).wf = true) ∧ ((Lit.int .i64 x.f3).wf = true) ∧ ((Lit.int .i64 x.f4).wf = true)
def Good133 (x : S133) : Prop := ((Lit.int .i64 x.f0).wf = true) ∧ (x.f1.length ≤ maxLen ∧ ∀ z0_ ∈ x.f1, Good140 z0_)
def Good87 (x : S87) : Prop := (x.f0.length ≤ maxLen ∧ ∀ z0_ ∈ x.f0, Good133 z0_)
def laws_FnExactAppOk.Goal : Prop := ∀ (l0 : List (S87)), (l0.length ≤ maxLen ∧ ∀ z0_ ∈ l0, Good87 z0_) → ∃ k, laws_FnExactAppOk.f k l0 = some true

end Go.Proofs.Ytagkoaalbapnmaa.XAppOk
