/- What is let out, put into its order: by the reference one by one, by the program over a heap. Both are the same. -/
import Derived.Test.YtjgpacfhokpfdaaOkPlFnExactLaneCut
import Derived.Test.YtjgpacfhokpfdaaOrdPlFnExactLaneCut
import Derived.Test.YtjgpacfhokpfdaaHeapPlFnExactLaneCut
set_option linter.unusedVariables false
set_option linter.unusedSimpArgs false
namespace Go.Proofs.Ytjgpacfhokpfdaa.SFnExactLaneCut
open Go Go.Sx Go.Pl
abbrev dO : Ou5 := dflt t_impl_Out

theorem TotO : Tot lessO := ⟨fun x y h => lexAsym _ _ h, fun x y z h h' => lexTrans _ _ _ h h', fun x y h h' => lessO_tot h h'⟩

theorem okLessO (x y : Ou5) : Ok (fun k => impl_OutLess k x y) (fun b => b = lessO x y) := ⟨_, implOutLess x y, rfl⟩

theorem okSpecLessO (x y : Ou5) : Ok (fun k => spec_OutLess k x y) (fun b => b = lessO x y) := ⟨_, Ev.of 1 fun m => specOutLess m x y, rfl⟩

end Go.Proofs.Ytjgpacfhokpfdaa.SFnExactLaneCut
