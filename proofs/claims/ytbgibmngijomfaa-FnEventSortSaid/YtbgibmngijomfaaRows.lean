/-
  No cell of these rows narrows 'for every input' (looked for: loops, veiled, ifaces, maps, wideKeys, modest, calm, conditions, laid).
  DERIVED. THE GIVEN ROWS OF THIS SEAT. 12 by the template 'for every input the law returns true; each argument reads behind the call as it read before'; 0 by the template 'total and deterministic' (their statements: YtbgibmngijomfaaTotals.lean).
  GIVEN WITH THE SEED: the statements are not yours to turn. If you find one false, say at which input.
  Laid BY PROGRAM, IN A SANDBOX (cutbox-rows.mjs): the forced cells as the released guide's own fill.sh prints them over the translation 9e95e4b62e3d3a0e… (all of the seat's roots in one cut). By AI agents, Wed Nov 11 2026. No macro, syntax, notation, axiom, sorry.
-/
import Derived.Test.YtbgibmngijomfaaChecked
import GoSem.Claim
import GoSem.ClaimJoined
import GoSem.ClaimMapViews
import Derived.JoinedTies
import Derived.KernelRfl
namespace Go.Proofs.Ytbgibmngijomfaa
/- THE CELL 'sum', in the pinned program and in every row, IS THE sha256 OF THE DUMP (.gsa) THAT YtbgibmngijomfaaProg.lean LOADS. Nothing in Lean hashes anything: it is a label: what it is worth is what the hold of that sum in a sandbox is worth. -/
noncomputable def Try.pinned : Pinned := { name := "ytbgibmngijomfaa", sum := "9e95e4b62e3d3a0eb56883803d4ed2720aae8a5451602f3ba6e45d70b186fc97", checked := Try.checked }
namespace Rows
def none {H : Type} : Left H := { results := [], args := [] }

/-- 'laws.FnExactConstants': WHATEVER THE INPUT: true; the input reads as it did. -/
def fnExactConstantsSpec : ChangeSpec := { name := "fnExactConstants", fn := fun _ => fun
  | [] => { results := [.lit (.bool true)], args := [] }
  | _ => none }
def fnExactConstantsRow : OpenClaim := { program := "ytbgibmngijomfaa", sum := "9e95e4b62e3d3a0eb56883803d4ed2720aae8a5451602f3ba6e45d70b186fc97", func := "loop.example/slackwater/laws.FnExactConstants", spec := "fnExactConstants", plainKeys := false, apart := false }
def FnExactConstantsSaid : Prop := fnExactConstantsRow.holds Try.pinned (OpenSpec.ofChange fnExactConstantsSpec)

/-- ITS FALSE NEIGHBOUR: 'it returns false'. Refute it at one input. -/
def fnExactConstantsWrong : ChangeSpec := { name := "fnExactConstants", fn := fun _ => fun
  | [] => { results := [.lit (.bool false)], args := [] }
  | _ => none }
def FnExactConstantsWrongFalsely : Prop := fnExactConstantsRow.holds Try.pinned (OpenSpec.ofChange fnExactConstantsWrong)

/-- 'laws.FnExactNodeOf': WHATEVER THE INPUT: true; the input reads as it did. -/
def fnExactNodeOfSpec : ChangeSpec := { name := "fnExactNodeOf", fn := fun _ => fun
  | [d] => { results := [.lit (.bool true)], args := [d] }
  | _ => none }
def fnExactNodeOfRow : OpenClaim := { program := "ytbgibmngijomfaa", sum := "9e95e4b62e3d3a0eb56883803d4ed2720aae8a5451602f3ba6e45d70b186fc97", func := "loop.example/slackwater/laws.FnExactNodeOf", spec := "fnExactNodeOf", plainKeys := false, apart := false }
def FnExactNodeOfSaid : Prop := fnExactNodeOfRow.holds Try.pinned (OpenSpec.ofChange fnExactNodeOfSpec)

/-- ITS FALSE NEIGHBOUR: 'it returns false'. Refute it at one input. -/
def fnExactNodeOfWrong : ChangeSpec := { name := "fnExactNodeOf", fn := fun _ => fun
  | [d] => { results := [.lit (.bool false)], args := [d] }
  | _ => none }
def FnExactNodeOfWrongFalsely : Prop := fnExactNodeOfRow.holds Try.pinned (OpenSpec.ofChange fnExactNodeOfWrong)

/-- 'laws.FnAppFirst': WHATEVER THE INPUT: true; the input reads as it did. -/
def fnAppFirstSpec : ChangeSpec := { name := "fnAppFirst", fn := fun _ => fun
  | [d] => { results := [.lit (.bool true)], args := [d] }
  | _ => none }
def fnAppFirstRow : OpenClaim := { program := "ytbgibmngijomfaa", sum := "9e95e4b62e3d3a0eb56883803d4ed2720aae8a5451602f3ba6e45d70b186fc97", func := "loop.example/slackwater/laws.FnAppFirst", spec := "fnAppFirst", plainKeys := false, apart := false }
def FnAppFirstSaid : Prop := fnAppFirstRow.holds Try.pinned (OpenSpec.ofChange fnAppFirstSpec)

/-- ITS FALSE NEIGHBOUR: 'it returns false'. Refute it at one input. -/
def fnAppFirstWrong : ChangeSpec := { name := "fnAppFirst", fn := fun _ => fun
  | [d] => { results := [.lit (.bool false)], args := [d] }
  | _ => none }
def FnAppFirstWrongFalsely : Prop := fnAppFirstRow.holds Try.pinned (OpenSpec.ofChange fnAppFirstWrong)

/-- 'laws.FnExactAppFirst': WHATEVER THE INPUT: true; the input reads as it did. -/
def fnExactAppFirstSpec : ChangeSpec := { name := "fnExactAppFirst", fn := fun _ => fun
  | [d] => { results := [.lit (.bool true)], args := [d] }
  | _ => none }
def fnExactAppFirstRow : OpenClaim := { program := "ytbgibmngijomfaa", sum := "9e95e4b62e3d3a0eb56883803d4ed2720aae8a5451602f3ba6e45d70b186fc97", func := "loop.example/slackwater/laws.FnExactAppFirst", spec := "fnExactAppFirst", plainKeys := false, apart := false }
def FnExactAppFirstSaid : Prop := fnExactAppFirstRow.holds Try.pinned (OpenSpec.ofChange fnExactAppFirstSpec)

/-- ITS FALSE NEIGHBOUR: 'it returns false'. Refute it at one input. -/
def fnExactAppFirstWrong : ChangeSpec := { name := "fnExactAppFirst", fn := fun _ => fun
  | [d] => { results := [.lit (.bool false)], args := [d] }
  | _ => none }
def FnExactAppFirstWrongFalsely : Prop := fnExactAppFirstRow.holds Try.pinned (OpenSpec.ofChange fnExactAppFirstWrong)

/-- 'laws.FnExactOutLess': WHATEVER THE INPUT: true; the input reads as it did. -/
def fnExactOutLessSpec : ChangeSpec := { name := "fnExactOutLess", fn := fun _ => fun
  | [d1, d2] => { results := [.lit (.bool true)], args := [d1, d2] }
  | _ => none }
def fnExactOutLessRow : OpenClaim := { program := "ytbgibmngijomfaa", sum := "9e95e4b62e3d3a0eb56883803d4ed2720aae8a5451602f3ba6e45d70b186fc97", func := "loop.example/slackwater/laws.FnExactOutLess", spec := "fnExactOutLess", plainKeys := false, apart := false }
def FnExactOutLessSaid : Prop := fnExactOutLessRow.holds Try.pinned (OpenSpec.ofChange fnExactOutLessSpec)

/-- ITS FALSE NEIGHBOUR: 'it returns false'. Refute it at one input. -/
def fnExactOutLessWrong : ChangeSpec := { name := "fnExactOutLess", fn := fun _ => fun
  | [d1, d2] => { results := [.lit (.bool false)], args := [d1, d2] }
  | _ => none }
def FnExactOutLessWrongFalsely : Prop := fnExactOutLessRow.holds Try.pinned (OpenSpec.ofChange fnExactOutLessWrong)

/-- 'laws.FnExactEventLess': WHATEVER THE INPUT: true; the input reads as it did. -/
def fnExactEventLessSpec : ChangeSpec := { name := "fnExactEventLess", fn := fun _ => fun
  | [d1, d2] => { results := [.lit (.bool true)], args := [d1, d2] }
  | _ => none }
def fnExactEventLessRow : OpenClaim := { program := "ytbgibmngijomfaa", sum := "9e95e4b62e3d3a0eb56883803d4ed2720aae8a5451602f3ba6e45d70b186fc97", func := "loop.example/slackwater/laws.FnExactEventLess", spec := "fnExactEventLess", plainKeys := false, apart := false }
def FnExactEventLessSaid : Prop := fnExactEventLessRow.holds Try.pinned (OpenSpec.ofChange fnExactEventLessSpec)

/-- ITS FALSE NEIGHBOUR: 'it returns false'. Refute it at one input. -/
def fnExactEventLessWrong : ChangeSpec := { name := "fnExactEventLess", fn := fun _ => fun
  | [d1, d2] => { results := [.lit (.bool false)], args := [d1, d2] }
  | _ => none }
def FnExactEventLessWrongFalsely : Prop := fnExactEventLessRow.holds Try.pinned (OpenSpec.ofChange fnExactEventLessWrong)

/-- 'laws.FnOutOrder': WHATEVER THE INPUT: true; the input reads as it did. -/
def fnOutOrderSpec : ChangeSpec := { name := "fnOutOrder", fn := fun _ => fun
  | [d] => { results := [.lit (.bool true)], args := [d] }
  | _ => none }
def fnOutOrderRow : OpenClaim := { program := "ytbgibmngijomfaa", sum := "9e95e4b62e3d3a0eb56883803d4ed2720aae8a5451602f3ba6e45d70b186fc97", func := "loop.example/slackwater/laws.FnOutOrder", spec := "fnOutOrder", plainKeys := false, apart := false }
def FnOutOrderSaid : Prop := fnOutOrderRow.holds Try.pinned (OpenSpec.ofChange fnOutOrderSpec)

/-- ITS FALSE NEIGHBOUR: 'it returns false'. Refute it at one input. -/
def fnOutOrderWrong : ChangeSpec := { name := "fnOutOrder", fn := fun _ => fun
  | [d] => { results := [.lit (.bool false)], args := [d] }
  | _ => none }
def FnOutOrderWrongFalsely : Prop := fnOutOrderRow.holds Try.pinned (OpenSpec.ofChange fnOutOrderWrong)

/-- 'laws.FnExactSlotNew': WHATEVER THE INPUT: true; the input reads as it did. -/
def fnExactSlotNewSpec : ChangeSpec := { name := "fnExactSlotNew", fn := fun _ => fun
  | [] => { results := [.lit (.bool true)], args := [] }
  | _ => none }
def fnExactSlotNewRow : OpenClaim := { program := "ytbgibmngijomfaa", sum := "9e95e4b62e3d3a0eb56883803d4ed2720aae8a5451602f3ba6e45d70b186fc97", func := "loop.example/slackwater/laws.FnExactSlotNew", spec := "fnExactSlotNew", plainKeys := false, apart := false }
def FnExactSlotNewSaid : Prop := fnExactSlotNewRow.holds Try.pinned (OpenSpec.ofChange fnExactSlotNewSpec)

/-- ITS FALSE NEIGHBOUR: 'it returns false'. Refute it at one input. -/
def fnExactSlotNewWrong : ChangeSpec := { name := "fnExactSlotNew", fn := fun _ => fun
  | [] => { results := [.lit (.bool false)], args := [] }
  | _ => none }
def FnExactSlotNewWrongFalsely : Prop := fnExactSlotNewRow.holds Try.pinned (OpenSpec.ofChange fnExactSlotNewWrong)

/-- 'laws.FnEventOrder': WHATEVER THE INPUT: true; the input reads as it did. -/
def fnEventOrderSpec : ChangeSpec := { name := "fnEventOrder", fn := fun _ => fun
  | [d1, d2] => { results := [.lit (.bool true)], args := [d1, d2] }
  | _ => none }
def fnEventOrderRow : OpenClaim := { program := "ytbgibmngijomfaa", sum := "9e95e4b62e3d3a0eb56883803d4ed2720aae8a5451602f3ba6e45d70b186fc97", func := "loop.example/slackwater/laws.FnEventOrder", spec := "fnEventOrder", plainKeys := false, apart := false }
def FnEventOrderSaid : Prop := fnEventOrderRow.holds Try.pinned (OpenSpec.ofChange fnEventOrderSpec)

/-- ITS FALSE NEIGHBOUR: 'it returns false'. Refute it at one input. -/
def fnEventOrderWrong : ChangeSpec := { name := "fnEventOrder", fn := fun _ => fun
  | [d1, d2] => { results := [.lit (.bool false)], args := [d1, d2] }
  | _ => none }
def FnEventOrderWrongFalsely : Prop := fnEventOrderRow.holds Try.pinned (OpenSpec.ofChange fnEventOrderWrong)

/-- 'laws.FnOutSort': WHATEVER THE INPUT: true; the input reads as it did. -/
def fnOutSortSpec : ChangeSpec := { name := "fnOutSort", fn := fun _ => fun
  | [d] => { results := [.lit (.bool true)], args := [d] }
  | _ => none }
def fnOutSortRow : OpenClaim := { program := "ytbgibmngijomfaa", sum := "9e95e4b62e3d3a0eb56883803d4ed2720aae8a5451602f3ba6e45d70b186fc97", func := "loop.example/slackwater/laws.FnOutSort", spec := "fnOutSort", unfollowed := true, recurses := true, plainKeys := false, apart := false }
def FnOutSortSaid : Prop := fnOutSortRow.holds Try.pinned (OpenSpec.ofChange fnOutSortSpec)

/-- ITS FALSE NEIGHBOUR: 'it returns false'. Refute it at one input. -/
def fnOutSortWrong : ChangeSpec := { name := "fnOutSort", fn := fun _ => fun
  | [d] => { results := [.lit (.bool false)], args := [d] }
  | _ => none }
def FnOutSortWrongFalsely : Prop := fnOutSortRow.holds Try.pinned (OpenSpec.ofChange fnOutSortWrong)

/-- 'laws.FnExactSlotOk': WHATEVER THE INPUT: true; the input reads as it did. -/
def fnExactSlotOkSpec : ChangeSpec := { name := "fnExactSlotOk", fn := fun _ => fun
  | [d] => { results := [.lit (.bool true)], args := [d] }
  | _ => none }
def fnExactSlotOkRow : OpenClaim := { program := "ytbgibmngijomfaa", sum := "9e95e4b62e3d3a0eb56883803d4ed2720aae8a5451602f3ba6e45d70b186fc97", func := "loop.example/slackwater/laws.FnExactSlotOk", spec := "fnExactSlotOk", plainKeys := false, apart := false }
def FnExactSlotOkSaid : Prop := fnExactSlotOkRow.holds Try.pinned (OpenSpec.ofChange fnExactSlotOkSpec)

/-- ITS FALSE NEIGHBOUR: 'it returns false'. Refute it at one input. -/
def fnExactSlotOkWrong : ChangeSpec := { name := "fnExactSlotOk", fn := fun _ => fun
  | [d] => { results := [.lit (.bool false)], args := [d] }
  | _ => none }
def FnExactSlotOkWrongFalsely : Prop := fnExactSlotOkRow.holds Try.pinned (OpenSpec.ofChange fnExactSlotOkWrong)

/-- 'laws.FnEventSort': WHATEVER THE INPUT: true; the input reads as it did. -/
def fnEventSortSpec : ChangeSpec := { name := "fnEventSort", fn := fun _ => fun
  | [d] => { results := [.lit (.bool true)], args := [d] }
  | _ => none }
def fnEventSortRow : OpenClaim := { program := "ytbgibmngijomfaa", sum := "9e95e4b62e3d3a0eb56883803d4ed2720aae8a5451602f3ba6e45d70b186fc97", func := "loop.example/slackwater/laws.FnEventSort", spec := "fnEventSort", unfollowed := true, recurses := true, plainKeys := false, apart := false }
def FnEventSortSaid : Prop := fnEventSortRow.holds Try.pinned (OpenSpec.ofChange fnEventSortSpec)

/-- ITS FALSE NEIGHBOUR: 'it returns false'. Refute it at one input. -/
def fnEventSortWrong : ChangeSpec := { name := "fnEventSort", fn := fun _ => fun
  | [d] => { results := [.lit (.bool false)], args := [d] }
  | _ => none }
def FnEventSortWrongFalsely : Prop := fnEventSortRow.holds Try.pinned (OpenSpec.ofChange fnEventSortWrong)

/- THE SECOND FORM. 'bulk': how many values and letters a reading holds, each counted each time it is reached (what is shared counts as often as it is met; a slice's spare places count too). A statement '..UptoSaid' is the law's where the arguments, and the package variables that the reading takes, are together of bulk at most 1048576: NARROWER than '..Said'. Prove '..Said' where nothing that the law and all that it calls make is longer than what came in: it says more and counts as full. Else prove '..UptoSaid'. A law counts once. -/
mutual
def uptoBulk {H : Type} : DataW H → Nat
  | .lit (.string bytes) => bytes.length + 1
  | .lit _ => 1
  | .nil => 1
  | .ptr d => uptoBulk d + 1
  | .slice elems spare => uptoBulkAll elems + uptoBulkAll spare + 1
  | .agg parts => uptoBulkAll parts + 1
  | .iface _ d => uptoBulk d + 1
  | .map entries => uptoBulkEntries entries + 1
  | .held _ => 1
def uptoBulkAll {H : Type} : List (DataW H) → Nat
  | [] => 0
  | d :: r => uptoBulk d + uptoBulkAll r
def uptoBulkEntries {H : Type} : List (Lit × DataW H) → Nat
  | [] => 0
  | x :: r => uptoBulkEntry x + uptoBulkEntries r
def uptoBulkEntry {H : Type} : Lit × DataW H → Nat
  | (.string bytes, d) => bytes.length + uptoBulk d + 1
  | (_, d) => uptoBulk d + 1
 end
def uptoSmall : (H : Type) → List (DataW H) → Bool := fun _ ds => decide (uptoBulkAll ds ≤ 1048576)
def OpenSpec.upto (s : _root_.Go.ChangeSpec) : _root_.Go.OpenSpec := { _root_.Go.OpenSpec.ofChange s with cond := some uptoSmall }

/-- 'laws.FnExactConstants', WHERE WHAT IT READS IS OF BULK AT MOST 1048576: true; the input reads as it did. -/
def fnExactConstantsUptoRow : OpenClaim := { program := "ytbgibmngijomfaa", sum := "9e95e4b62e3d3a0eb56883803d4ed2720aae8a5451602f3ba6e45d70b186fc97", func := "loop.example/slackwater/laws.FnExactConstants", spec := "fnExactConstants", plainKeys := false, apart := false, narrowed := true }
def FnExactConstantsUptoSaid : Prop := fnExactConstantsUptoRow.holds Try.pinned (OpenSpec.upto fnExactConstantsSpec)

/-- 'laws.FnExactNodeOf', WHERE WHAT IT READS IS OF BULK AT MOST 1048576: true; the input reads as it did. -/
def fnExactNodeOfUptoRow : OpenClaim := { program := "ytbgibmngijomfaa", sum := "9e95e4b62e3d3a0eb56883803d4ed2720aae8a5451602f3ba6e45d70b186fc97", func := "loop.example/slackwater/laws.FnExactNodeOf", spec := "fnExactNodeOf", plainKeys := false, apart := false, narrowed := true }
def FnExactNodeOfUptoSaid : Prop := fnExactNodeOfUptoRow.holds Try.pinned (OpenSpec.upto fnExactNodeOfSpec)

/-- 'laws.FnAppFirst', WHERE WHAT IT READS IS OF BULK AT MOST 1048576: true; the input reads as it did. -/
def fnAppFirstUptoRow : OpenClaim := { program := "ytbgibmngijomfaa", sum := "9e95e4b62e3d3a0eb56883803d4ed2720aae8a5451602f3ba6e45d70b186fc97", func := "loop.example/slackwater/laws.FnAppFirst", spec := "fnAppFirst", plainKeys := false, apart := false, narrowed := true }
def FnAppFirstUptoSaid : Prop := fnAppFirstUptoRow.holds Try.pinned (OpenSpec.upto fnAppFirstSpec)

/-- 'laws.FnExactAppFirst', WHERE WHAT IT READS IS OF BULK AT MOST 1048576: true; the input reads as it did. -/
def fnExactAppFirstUptoRow : OpenClaim := { program := "ytbgibmngijomfaa", sum := "9e95e4b62e3d3a0eb56883803d4ed2720aae8a5451602f3ba6e45d70b186fc97", func := "loop.example/slackwater/laws.FnExactAppFirst", spec := "fnExactAppFirst", plainKeys := false, apart := false, narrowed := true }
def FnExactAppFirstUptoSaid : Prop := fnExactAppFirstUptoRow.holds Try.pinned (OpenSpec.upto fnExactAppFirstSpec)

/-- 'laws.FnExactOutLess', WHERE WHAT IT READS IS OF BULK AT MOST 1048576: true; the input reads as it did. -/
def fnExactOutLessUptoRow : OpenClaim := { program := "ytbgibmngijomfaa", sum := "9e95e4b62e3d3a0eb56883803d4ed2720aae8a5451602f3ba6e45d70b186fc97", func := "loop.example/slackwater/laws.FnExactOutLess", spec := "fnExactOutLess", plainKeys := false, apart := false, narrowed := true }
def FnExactOutLessUptoSaid : Prop := fnExactOutLessUptoRow.holds Try.pinned (OpenSpec.upto fnExactOutLessSpec)

/-- 'laws.FnExactEventLess', WHERE WHAT IT READS IS OF BULK AT MOST 1048576: true; the input reads as it did. -/
def fnExactEventLessUptoRow : OpenClaim := { program := "ytbgibmngijomfaa", sum := "9e95e4b62e3d3a0eb56883803d4ed2720aae8a5451602f3ba6e45d70b186fc97", func := "loop.example/slackwater/laws.FnExactEventLess", spec := "fnExactEventLess", plainKeys := false, apart := false, narrowed := true }
def FnExactEventLessUptoSaid : Prop := fnExactEventLessUptoRow.holds Try.pinned (OpenSpec.upto fnExactEventLessSpec)

/-- 'laws.FnOutOrder', WHERE WHAT IT READS IS OF BULK AT MOST 1048576: true; the input reads as it did. -/
def fnOutOrderUptoRow : OpenClaim := { program := "ytbgibmngijomfaa", sum := "9e95e4b62e3d3a0eb56883803d4ed2720aae8a5451602f3ba6e45d70b186fc97", func := "loop.example/slackwater/laws.FnOutOrder", spec := "fnOutOrder", plainKeys := false, apart := false, narrowed := true }
def FnOutOrderUptoSaid : Prop := fnOutOrderUptoRow.holds Try.pinned (OpenSpec.upto fnOutOrderSpec)

/-- 'laws.FnExactSlotNew', WHERE WHAT IT READS IS OF BULK AT MOST 1048576: true; the input reads as it did. -/
def fnExactSlotNewUptoRow : OpenClaim := { program := "ytbgibmngijomfaa", sum := "9e95e4b62e3d3a0eb56883803d4ed2720aae8a5451602f3ba6e45d70b186fc97", func := "loop.example/slackwater/laws.FnExactSlotNew", spec := "fnExactSlotNew", plainKeys := false, apart := false, narrowed := true }
def FnExactSlotNewUptoSaid : Prop := fnExactSlotNewUptoRow.holds Try.pinned (OpenSpec.upto fnExactSlotNewSpec)

/-- 'laws.FnEventOrder', WHERE WHAT IT READS IS OF BULK AT MOST 1048576: true; the input reads as it did. -/
def fnEventOrderUptoRow : OpenClaim := { program := "ytbgibmngijomfaa", sum := "9e95e4b62e3d3a0eb56883803d4ed2720aae8a5451602f3ba6e45d70b186fc97", func := "loop.example/slackwater/laws.FnEventOrder", spec := "fnEventOrder", plainKeys := false, apart := false, narrowed := true }
def FnEventOrderUptoSaid : Prop := fnEventOrderUptoRow.holds Try.pinned (OpenSpec.upto fnEventOrderSpec)

/-- 'laws.FnOutSort', WHERE WHAT IT READS IS OF BULK AT MOST 1048576: true; the input reads as it did. -/
def fnOutSortUptoRow : OpenClaim := { program := "ytbgibmngijomfaa", sum := "9e95e4b62e3d3a0eb56883803d4ed2720aae8a5451602f3ba6e45d70b186fc97", func := "loop.example/slackwater/laws.FnOutSort", spec := "fnOutSort", unfollowed := true, recurses := true, plainKeys := false, apart := false, narrowed := true }
def FnOutSortUptoSaid : Prop := fnOutSortUptoRow.holds Try.pinned (OpenSpec.upto fnOutSortSpec)

/-- 'laws.FnExactSlotOk', WHERE WHAT IT READS IS OF BULK AT MOST 1048576: true; the input reads as it did. -/
def fnExactSlotOkUptoRow : OpenClaim := { program := "ytbgibmngijomfaa", sum := "9e95e4b62e3d3a0eb56883803d4ed2720aae8a5451602f3ba6e45d70b186fc97", func := "loop.example/slackwater/laws.FnExactSlotOk", spec := "fnExactSlotOk", plainKeys := false, apart := false, narrowed := true }
def FnExactSlotOkUptoSaid : Prop := fnExactSlotOkUptoRow.holds Try.pinned (OpenSpec.upto fnExactSlotOkSpec)

/-- 'laws.FnEventSort', WHERE WHAT IT READS IS OF BULK AT MOST 1048576: true; the input reads as it did. -/
def fnEventSortUptoRow : OpenClaim := { program := "ytbgibmngijomfaa", sum := "9e95e4b62e3d3a0eb56883803d4ed2720aae8a5451602f3ba6e45d70b186fc97", func := "loop.example/slackwater/laws.FnEventSort", spec := "fnEventSort", unfollowed := true, recurses := true, plainKeys := false, apart := false, narrowed := true }
def FnEventSortUptoSaid : Prop := fnEventSortUptoRow.holds Try.pinned (OpenSpec.upto fnEventSortSpec)

end Rows
end Go.Proofs.Ytbgibmngijomfaa
