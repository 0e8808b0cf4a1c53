/- Functions of the program as plain functions of numbers and lists, each with its contract: the machine's call does what the plain function says. No condition of ours. -/
import Derived.Test.YtbgibmngijomfaaProg
import Derived.Below
import Derived.Deep.Draws
import Derived.Deep.AppendLies
import Derived.Maps.AppendAt
import Derived.OwnWalk
import Derived.Laws.BytesArg
import Derived.Laws.MakeOwn
import Derived.Laws.OwnMore
import Derived.Deep.OwnRows
import Derived.Tactics
import Derived.Lib.ConvBytes
import Derived.Laws.Slices
import Derived.WalkKit
import Derived.KernelRfl
import Derived.RowKit3
import Derived.Deep.LoopGhost
import Derived.Deep.QuietTactic
import Derived.BigQuiet
import Derived.WideLaws
import Derived.Deep.DeepCutAuto
import Derived.Deep.CutBlock
import Derived.Deep.RegionHeld3
import Derived.Laws.Rows
import Derived.Lib.AppendStr
import Derived.ArgAppend
import Derived.Laws.IdiomCopy
import Derived.OrdersHeld
import Derived.Laws.BitsLemmas
import Derived.RowKit
import Derived.Test.YtbgibmngijomfaaXW
import Derived.Test.YtbgibmngijomfaaWWords
import Derived.Test.YtbgibmngijomfaaWLast
import Derived.Test.YtbgibmngijomfaaWTab
import Derived.Test.YtbgibmngijomfaaWFour
import Derived.Test.YtbgibmngijomfaaWQPut
import Derived.Test.YtbgibmngijomfaaWApart
import Derived.Test.YtbgibmngijomfaaWArr
import Derived.Test.YtbgibmngijomfaaWZeros
import Derived.Test.YtbgibmngijomfaaWFoot
import Derived.Test.YtbgibmngijomfaaWKept
import Derived.Test.YtbgibmngijomfaaWShare
import Derived.Test.YtbgibmngijomfaaWN
import Derived.Test.YtbgibmngijomfaaWFootNe
import Derived.Test.YtbgibmngijomfaaWAt
import Derived.Test.YtbgibmngijomfaaWEqStruct
import Derived.Test.YtbgibmngijomfaaWRepsOne
import Derived.Test.YtbgibmngijomfaaWInv
import Derived.Test.YtbgibmngijomfaaWInvWords
import Derived.Test.YtbgibmngijomfaaWGuard
import Derived.Test.YtbgibmngijomfaaWNEv
import Derived.Test.YtbgibmngijomfaaWMore
namespace Go.Proofs.Ytbgibmngijomfaa.XOutOrder
open Go.RowKit Go.Proofs.YtbgibmngijomfaaW.PrintWords Go.Proofs.YtbgibmngijomfaaW.PrintLast Go.Proofs.YtbgibmngijomfaaW.PrintMore
attribute [local go_sem] max2_int min2_int max_two min_two max_three min_three max_four min_four   -- for this text's walks alone
set_option linter.unusedVariables false
set_option linter.unusedSimpArgs false



def errW : Option Int → Value
  | none => .nilIface
  | some c => .iface 0 (.int .i64 c)
theorem errW_none : errW none = .nilIface := rfl
theorem errW_some (c : Int) : errW (some c) = .iface 0 (.int .i64 c) := rfl

theorem info5 : (Try.prog.info? 5).map (fun i => (i.zero, i.size, i.bytes)) = some (some (.int .u8 0), 1, 1) := by kernel_rfl
-- the values' own types

end Go.Proofs.Ytbgibmngijomfaa.XOutOrder
