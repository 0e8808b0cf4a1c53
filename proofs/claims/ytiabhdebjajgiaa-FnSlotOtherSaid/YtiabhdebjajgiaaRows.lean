/-
  No cell of these rows narrows 'for every input' (looked for: loops, veiled, ifaces, maps, wideKeys, modest, calm, conditions, laid).
  DERIVED. THE GIVEN ROWS OF THIS SEAT. 9 by the template 'for every input the law returns true; each argument reads behind the call as it read before'; 0 by the template 'total and deterministic' (their statements: YtiabhdebjajgiaaTotals.lean).
  GIVEN WITH THE SEED: the statements are not yours to turn. If you find one false, say at which input.
  Laid BY PROGRAM, IN A SANDBOX (cutbox-rows.mjs): the forced cells as the released guide's own fill.sh prints them over the translation da6ed4bc56b41502… (all of the seat's roots in one cut). By AI agents, Wed Nov 11 2026. No macro, syntax, notation, axiom, sorry.
-/
import Derived.Test.YtiabhdebjajgiaaChecked
import GoSem.Claim
import GoSem.ClaimJoined
import GoSem.ClaimMapViews
import Derived.JoinedTies
import Derived.KernelRfl
namespace Go.Proofs.Ytiabhdebjajgiaa
/- THE CELL 'sum', in the pinned program and in every row, IS THE sha256 OF THE DUMP (.gsa) THAT YtiabhdebjajgiaaProg.lean LOADS. Nothing in Lean hashes anything: it is a label: what it is worth is what the hold of that sum in a sandbox is worth. -/
noncomputable def Try.pinned : Pinned := { name := "ytiabhdebjajgiaa", sum := "da6ed4bc56b4150279673b66a95be5bf9960c85805cb34470edc8ebcdf6b325b", checked := Try.checked }
namespace Rows
def none {H : Type} : Left H := { results := [], args := [] }

/-- 'laws.FnExactSlotNew': WHATEVER THE INPUT: true; the input reads as it did. -/
def fnExactSlotNewSpec : ChangeSpec := { name := "fnExactSlotNew", fn := fun _ => fun
  | [] => { results := [.lit (.bool true)], args := [] }
  | _ => none }
def fnExactSlotNewRow : OpenClaim := { program := "ytiabhdebjajgiaa", sum := "da6ed4bc56b4150279673b66a95be5bf9960c85805cb34470edc8ebcdf6b325b", func := "loop.example/slackwater/laws.FnExactSlotNew", spec := "fnExactSlotNew", apart := false }
def FnExactSlotNewSaid : Prop := fnExactSlotNewRow.holds Try.pinned (OpenSpec.ofChange fnExactSlotNewSpec)

/-- ITS FALSE NEIGHBOUR: 'it returns false'. Refute it at one input. -/
def fnExactSlotNewWrong : ChangeSpec := { name := "fnExactSlotNew", fn := fun _ => fun
  | [] => { results := [.lit (.bool false)], args := [] }
  | _ => none }
def FnExactSlotNewWrongFalsely : Prop := fnExactSlotNewRow.holds Try.pinned (OpenSpec.ofChange fnExactSlotNewWrong)

/-- 'laws.FnExactSlotOk': WHATEVER THE INPUT: true; the input reads as it did. -/
def fnExactSlotOkSpec : ChangeSpec := { name := "fnExactSlotOk", fn := fun _ => fun
  | [d] => { results := [.lit (.bool true)], args := [d] }
  | _ => none }
def fnExactSlotOkRow : OpenClaim := { program := "ytiabhdebjajgiaa", sum := "da6ed4bc56b4150279673b66a95be5bf9960c85805cb34470edc8ebcdf6b325b", func := "loop.example/slackwater/laws.FnExactSlotOk", spec := "fnExactSlotOk", apart := false }
def FnExactSlotOkSaid : Prop := fnExactSlotOkRow.holds Try.pinned (OpenSpec.ofChange fnExactSlotOkSpec)

/-- ITS FALSE NEIGHBOUR: 'it returns false'. Refute it at one input. -/
def fnExactSlotOkWrong : ChangeSpec := { name := "fnExactSlotOk", fn := fun _ => fun
  | [d] => { results := [.lit (.bool false)], args := [d] }
  | _ => none }
def FnExactSlotOkWrongFalsely : Prop := fnExactSlotOkRow.holds Try.pinned (OpenSpec.ofChange fnExactSlotOkWrong)

/-- 'laws.FnExactSlotRead': WHATEVER THE INPUT: true; the input reads as it did. -/
def fnExactSlotReadSpec : ChangeSpec := { name := "fnExactSlotRead", fn := fun _ => fun
  | [d] => { results := [.lit (.bool true)], args := [d] }
  | _ => none }
def fnExactSlotReadRow : OpenClaim := { program := "ytiabhdebjajgiaa", sum := "da6ed4bc56b4150279673b66a95be5bf9960c85805cb34470edc8ebcdf6b325b", func := "loop.example/slackwater/laws.FnExactSlotRead", spec := "fnExactSlotRead", apart := false }
def FnExactSlotReadSaid : Prop := fnExactSlotReadRow.holds Try.pinned (OpenSpec.ofChange fnExactSlotReadSpec)

/-- ITS FALSE NEIGHBOUR: 'it returns false'. Refute it at one input. -/
def fnExactSlotReadWrong : ChangeSpec := { name := "fnExactSlotRead", fn := fun _ => fun
  | [d] => { results := [.lit (.bool false)], args := [d] }
  | _ => none }
def FnExactSlotReadWrongFalsely : Prop := fnExactSlotReadRow.holds Try.pinned (OpenSpec.ofChange fnExactSlotReadWrong)

/-- 'laws.FnExactSlotSave': WHATEVER THE INPUT: true; the input reads as it did. -/
def fnExactSlotSaveSpec : ChangeSpec := { name := "fnExactSlotSave", fn := fun _ => fun
  | [d1, d2] => { results := [.lit (.bool true)], args := [d1, d2] }
  | _ => none }
def fnExactSlotSaveRow : OpenClaim := { program := "ytiabhdebjajgiaa", sum := "da6ed4bc56b4150279673b66a95be5bf9960c85805cb34470edc8ebcdf6b325b", func := "loop.example/slackwater/laws.FnExactSlotSave", spec := "fnExactSlotSave", unfollowed := true, recurses := true, apart := false }
def FnExactSlotSaveSaid : Prop := fnExactSlotSaveRow.holds Try.pinned (OpenSpec.ofChange fnExactSlotSaveSpec)

/-- ITS FALSE NEIGHBOUR: 'it returns false'. Refute it at one input. -/
def fnExactSlotSaveWrong : ChangeSpec := { name := "fnExactSlotSave", fn := fun _ => fun
  | [d1, d2] => { results := [.lit (.bool false)], args := [d1, d2] }
  | _ => none }
def FnExactSlotSaveWrongFalsely : Prop := fnExactSlotSaveRow.holds Try.pinned (OpenSpec.ofChange fnExactSlotSaveWrong)

/-- 'laws.FnExactSlotDo': WHATEVER THE INPUT: true; the input reads as it did. -/
def fnExactSlotDoSpec : ChangeSpec := { name := "fnExactSlotDo", fn := fun _ => fun
  | [d1, d2, d3] => { results := [.lit (.bool true)], args := [d1, d2, d3] }
  | _ => none }
def fnExactSlotDoRow : OpenClaim := { program := "ytiabhdebjajgiaa", sum := "da6ed4bc56b4150279673b66a95be5bf9960c85805cb34470edc8ebcdf6b325b", func := "loop.example/slackwater/laws.FnExactSlotDo", spec := "fnExactSlotDo", unfollowed := true, recurses := true, apart := false }
def FnExactSlotDoSaid : Prop := fnExactSlotDoRow.holds Try.pinned (OpenSpec.ofChange fnExactSlotDoSpec)

/-- ITS FALSE NEIGHBOUR: 'it returns false'. Refute it at one input. -/
def fnExactSlotDoWrong : ChangeSpec := { name := "fnExactSlotDo", fn := fun _ => fun
  | [d1, d2, d3] => { results := [.lit (.bool false)], args := [d1, d2, d3] }
  | _ => none }
def FnExactSlotDoWrongFalsely : Prop := fnExactSlotDoRow.holds Try.pinned (OpenSpec.ofChange fnExactSlotDoWrong)

/-- 'laws.FnSlotOther': WHATEVER THE INPUT: true; the input reads as it did. -/
def fnSlotOtherSpec : ChangeSpec := { name := "fnSlotOther", fn := fun _ => fun
  | [d] => { results := [.lit (.bool true)], args := [d] }
  | _ => none }
def fnSlotOtherRow : OpenClaim := { program := "ytiabhdebjajgiaa", sum := "da6ed4bc56b4150279673b66a95be5bf9960c85805cb34470edc8ebcdf6b325b", func := "loop.example/slackwater/laws.FnSlotOther", spec := "fnSlotOther", unfollowed := true, recurses := true, apart := false }
def FnSlotOtherSaid : Prop := fnSlotOtherRow.holds Try.pinned (OpenSpec.ofChange fnSlotOtherSpec)

/-- ITS FALSE NEIGHBOUR: 'it returns false'. Refute it at one input. -/
def fnSlotOtherWrong : ChangeSpec := { name := "fnSlotOther", fn := fun _ => fun
  | [d] => { results := [.lit (.bool false)], args := [d] }
  | _ => none }
def FnSlotOtherWrongFalsely : Prop := fnSlotOtherRow.holds Try.pinned (OpenSpec.ofChange fnSlotOtherWrong)

/-- 'laws.FnSlotTwice': WHATEVER THE INPUT: true; the input reads as it did. -/
def fnSlotTwiceSpec : ChangeSpec := { name := "fnSlotTwice", fn := fun _ => fun
  | [d1, d2] => { results := [.lit (.bool true)], args := [d1, d2] }
  | _ => none }
def fnSlotTwiceRow : OpenClaim := { program := "ytiabhdebjajgiaa", sum := "da6ed4bc56b4150279673b66a95be5bf9960c85805cb34470edc8ebcdf6b325b", func := "loop.example/slackwater/laws.FnSlotTwice", spec := "fnSlotTwice", unfollowed := true, recurses := true, apart := false }
def FnSlotTwiceSaid : Prop := fnSlotTwiceRow.holds Try.pinned (OpenSpec.ofChange fnSlotTwiceSpec)

/-- ITS FALSE NEIGHBOUR: 'it returns false'. Refute it at one input. -/
def fnSlotTwiceWrong : ChangeSpec := { name := "fnSlotTwice", fn := fun _ => fun
  | [d1, d2] => { results := [.lit (.bool false)], args := [d1, d2] }
  | _ => none }
def FnSlotTwiceWrongFalsely : Prop := fnSlotTwiceRow.holds Try.pinned (OpenSpec.ofChange fnSlotTwiceWrong)

/-- 'laws.FnSlotTop': WHATEVER THE INPUT: true; the input reads as it did. -/
def fnSlotTopSpec : ChangeSpec := { name := "fnSlotTop", fn := fun _ => fun
  | [d] => { results := [.lit (.bool true)], args := [d] }
  | _ => none }
def fnSlotTopRow : OpenClaim := { program := "ytiabhdebjajgiaa", sum := "da6ed4bc56b4150279673b66a95be5bf9960c85805cb34470edc8ebcdf6b325b", func := "loop.example/slackwater/laws.FnSlotTop", spec := "fnSlotTop", unfollowed := true, recurses := true, apart := false }
def FnSlotTopSaid : Prop := fnSlotTopRow.holds Try.pinned (OpenSpec.ofChange fnSlotTopSpec)

/-- ITS FALSE NEIGHBOUR: 'it returns false'. Refute it at one input. -/
def fnSlotTopWrong : ChangeSpec := { name := "fnSlotTop", fn := fun _ => fun
  | [d] => { results := [.lit (.bool false)], args := [d] }
  | _ => none }
def FnSlotTopWrongFalsely : Prop := fnSlotTopRow.holds Try.pinned (OpenSpec.ofChange fnSlotTopWrong)

/-- 'laws.FnSlotBack': WHATEVER THE INPUT: true; the input reads as it did. -/
def fnSlotBackSpec : ChangeSpec := { name := "fnSlotBack", fn := fun _ => fun
  | [d] => { results := [.lit (.bool true)], args := [d] }
  | _ => none }
def fnSlotBackRow : OpenClaim := { program := "ytiabhdebjajgiaa", sum := "da6ed4bc56b4150279673b66a95be5bf9960c85805cb34470edc8ebcdf6b325b", func := "loop.example/slackwater/laws.FnSlotBack", spec := "fnSlotBack", unfollowed := true, recurses := true, apart := false }
def FnSlotBackSaid : Prop := fnSlotBackRow.holds Try.pinned (OpenSpec.ofChange fnSlotBackSpec)

/-- ITS FALSE NEIGHBOUR: 'it returns false'. Refute it at one input. -/
def fnSlotBackWrong : ChangeSpec := { name := "fnSlotBack", fn := fun _ => fun
  | [d] => { results := [.lit (.bool false)], args := [d] }
  | _ => none }
def FnSlotBackWrongFalsely : Prop := fnSlotBackRow.holds Try.pinned (OpenSpec.ofChange fnSlotBackWrong)

/- THE SECOND FORM. 'bulk': how many values and letters a reading holds, each counted each time it is reached (what is shared counts as often as it is met; a slice's spare places count too). A statement '..UptoSaid' is the law's where the arguments, and the package variables that the reading takes, are together of bulk at most 1048576: NARROWER than '..Said'. Prove '..Said' where nothing that the law and all that it calls make is longer than what came in: it says more and counts as full. Else prove '..UptoSaid'. A law counts once. -/
mutual
def uptoBulk {H : Type} : DataW H → Nat
  | .lit (.string bytes) => bytes.length + 1
  | .lit _ => 1
  | .nil => 1
  | .ptr d => uptoBulk d + 1
  | .slice elems spare => uptoBulkAll elems + uptoBulkAll spare + 1
  | .agg parts => uptoBulkAll parts + 1
  | .iface _ d => uptoBulk d + 1
  | .map entries => uptoBulkEntries entries + 1
  | .held _ => 1
def uptoBulkAll {H : Type} : List (DataW H) → Nat
  | [] => 0
  | d :: r => uptoBulk d + uptoBulkAll r
def uptoBulkEntries {H : Type} : List (Lit × DataW H) → Nat
  | [] => 0
  | x :: r => uptoBulkEntry x + uptoBulkEntries r
def uptoBulkEntry {H : Type} : Lit × DataW H → Nat
  | (.string bytes, d) => bytes.length + uptoBulk d + 1
  | (_, d) => uptoBulk d + 1
 end
def uptoSmall : (H : Type) → List (DataW H) → Bool := fun _ ds => decide (uptoBulkAll ds ≤ 1048576)
def OpenSpec.upto (s : _root_.Go.ChangeSpec) : _root_.Go.OpenSpec := { _root_.Go.OpenSpec.ofChange s with cond := some uptoSmall }

/-- 'laws.FnExactSlotNew', WHERE WHAT IT READS IS OF BULK AT MOST 1048576: true; the input reads as it did. -/
def fnExactSlotNewUptoRow : OpenClaim := { program := "ytiabhdebjajgiaa", sum := "da6ed4bc56b4150279673b66a95be5bf9960c85805cb34470edc8ebcdf6b325b", func := "loop.example/slackwater/laws.FnExactSlotNew", spec := "fnExactSlotNew", apart := false, narrowed := true }
def FnExactSlotNewUptoSaid : Prop := fnExactSlotNewUptoRow.holds Try.pinned (OpenSpec.upto fnExactSlotNewSpec)

/-- 'laws.FnExactSlotOk', WHERE WHAT IT READS IS OF BULK AT MOST 1048576: true; the input reads as it did. -/
def fnExactSlotOkUptoRow : OpenClaim := { program := "ytiabhdebjajgiaa", sum := "da6ed4bc56b4150279673b66a95be5bf9960c85805cb34470edc8ebcdf6b325b", func := "loop.example/slackwater/laws.FnExactSlotOk", spec := "fnExactSlotOk", apart := false, narrowed := true }
def FnExactSlotOkUptoSaid : Prop := fnExactSlotOkUptoRow.holds Try.pinned (OpenSpec.upto fnExactSlotOkSpec)

/-- 'laws.FnExactSlotRead', WHERE WHAT IT READS IS OF BULK AT MOST 1048576: true; the input reads as it did. -/
def fnExactSlotReadUptoRow : OpenClaim := { program := "ytiabhdebjajgiaa", sum := "da6ed4bc56b4150279673b66a95be5bf9960c85805cb34470edc8ebcdf6b325b", func := "loop.example/slackwater/laws.FnExactSlotRead", spec := "fnExactSlotRead", apart := false, narrowed := true }
def FnExactSlotReadUptoSaid : Prop := fnExactSlotReadUptoRow.holds Try.pinned (OpenSpec.upto fnExactSlotReadSpec)

/-- 'laws.FnExactSlotSave', WHERE WHAT IT READS IS OF BULK AT MOST 1048576: true; the input reads as it did. -/
def fnExactSlotSaveUptoRow : OpenClaim := { program := "ytiabhdebjajgiaa", sum := "da6ed4bc56b4150279673b66a95be5bf9960c85805cb34470edc8ebcdf6b325b", func := "loop.example/slackwater/laws.FnExactSlotSave", spec := "fnExactSlotSave", unfollowed := true, recurses := true, apart := false, narrowed := true }
def FnExactSlotSaveUptoSaid : Prop := fnExactSlotSaveUptoRow.holds Try.pinned (OpenSpec.upto fnExactSlotSaveSpec)

/-- 'laws.FnExactSlotDo', WHERE WHAT IT READS IS OF BULK AT MOST 1048576: true; the input reads as it did. -/
def fnExactSlotDoUptoRow : OpenClaim := { program := "ytiabhdebjajgiaa", sum := "da6ed4bc56b4150279673b66a95be5bf9960c85805cb34470edc8ebcdf6b325b", func := "loop.example/slackwater/laws.FnExactSlotDo", spec := "fnExactSlotDo", unfollowed := true, recurses := true, apart := false, narrowed := true }
def FnExactSlotDoUptoSaid : Prop := fnExactSlotDoUptoRow.holds Try.pinned (OpenSpec.upto fnExactSlotDoSpec)

/-- 'laws.FnSlotOther', WHERE WHAT IT READS IS OF BULK AT MOST 1048576: true; the input reads as it did. -/
def fnSlotOtherUptoRow : OpenClaim := { program := "ytiabhdebjajgiaa", sum := "da6ed4bc56b4150279673b66a95be5bf9960c85805cb34470edc8ebcdf6b325b", func := "loop.example/slackwater/laws.FnSlotOther", spec := "fnSlotOther", unfollowed := true, recurses := true, apart := false, narrowed := true }
def FnSlotOtherUptoSaid : Prop := fnSlotOtherUptoRow.holds Try.pinned (OpenSpec.upto fnSlotOtherSpec)

/-- 'laws.FnSlotTwice', WHERE WHAT IT READS IS OF BULK AT MOST 1048576: true; the input reads as it did. -/
def fnSlotTwiceUptoRow : OpenClaim := { program := "ytiabhdebjajgiaa", sum := "da6ed4bc56b4150279673b66a95be5bf9960c85805cb34470edc8ebcdf6b325b", func := "loop.example/slackwater/laws.FnSlotTwice", spec := "fnSlotTwice", unfollowed := true, recurses := true, apart := false, narrowed := true }
def FnSlotTwiceUptoSaid : Prop := fnSlotTwiceUptoRow.holds Try.pinned (OpenSpec.upto fnSlotTwiceSpec)

/-- 'laws.FnSlotTop', WHERE WHAT IT READS IS OF BULK AT MOST 1048576: true; the input reads as it did. -/
def fnSlotTopUptoRow : OpenClaim := { program := "ytiabhdebjajgiaa", sum := "da6ed4bc56b4150279673b66a95be5bf9960c85805cb34470edc8ebcdf6b325b", func := "loop.example/slackwater/laws.FnSlotTop", spec := "fnSlotTop", unfollowed := true, recurses := true, apart := false, narrowed := true }
def FnSlotTopUptoSaid : Prop := fnSlotTopUptoRow.holds Try.pinned (OpenSpec.upto fnSlotTopSpec)

/-- 'laws.FnSlotBack', WHERE WHAT IT READS IS OF BULK AT MOST 1048576: true; the input reads as it did. -/
def fnSlotBackUptoRow : OpenClaim := { program := "ytiabhdebjajgiaa", sum := "da6ed4bc56b4150279673b66a95be5bf9960c85805cb34470edc8ebcdf6b325b", func := "loop.example/slackwater/laws.FnSlotBack", spec := "fnSlotBack", unfollowed := true, recurses := true, apart := false, narrowed := true }
def FnSlotBackUptoSaid : Prop := fnSlotBackUptoRow.holds Try.pinned (OpenSpec.upto fnSlotBackSpec)

end Rows
end Go.Proofs.Ytiabhdebjajgiaa
