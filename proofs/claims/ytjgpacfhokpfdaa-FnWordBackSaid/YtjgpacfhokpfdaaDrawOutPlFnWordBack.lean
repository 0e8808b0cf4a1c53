/- What the reference draws to be let out. -/
import Derived.Test.YtjgpacfhokpfdaaDrawPlFnWordBack
import Derived.Test.YtjgpacfhokpfdaaChecksPlFnWordBack
set_option linter.unusedVariables false
namespace Go.Proofs.Ytjgpacfhokpfdaa.SFnWordBack
open Go Go.Sx Go.Pl
theorem l72OutOk {r : List Int × Int} {m : Nat} (hr : RdOk r m) (hm : m < 100000000) :
    Ok (fun k => spec_l72Out_h0 k r) (fun b => RdOk (b.2.1.1, b.2.1.2.1) (m + 5)) := by
  refine Ok.step (fun k => spec_l72Out_h0_eq k r) ?_
  refine Ok.bind (pickOk hr (by omega) (by omega)) fun x0 h0 => ?_
  refine Ok.bind (pickOk h0.2.2 (by omega) (by omega)) fun x1 h1 => ?_
  refine Ok.bind (pickOk h1.2.2 (by omega) (by omega)) fun x2 h2 => ?_
  refine Ok.bind (pickOk h2.2.2 (by omega) (by omega)) fun x3 h3 => ?_
  refine Ok.bind (pickOk h3.2.2 (by omega) (by omega)) fun x4 h4 => ?_
  exact Ok.some h4.2.2

end Go.Proofs.Ytjgpacfhokpfdaa.SFnWordBack
