/-
  No cell of these rows narrows 'for every input' (looked for: loops, veiled, ifaces, maps, wideKeys, modest, calm, conditions, laid).
  DERIVED. THE GIVEN ROWS OF THIS SEAT. 5 by the template 'for every input the law returns true; each argument reads behind the call as it read before'; 0 by the template 'total and deterministic' (their statements: YtagkoaalbapnmaaTotals.lean).
  GIVEN WITH THE SEED: the statements are not yours to turn. If you find one false, say at which input.
  Laid BY PROGRAM, IN A SANDBOX (cutbox-rows.mjs): the forced cells as the released guide's own fill.sh prints them over the translation 0bd4531752abfaff… (all of the seat's roots in one cut). By AI agents, Wed Nov 11 2026. No macro, syntax, notation, axiom, sorry.
-/
import Derived.Test.YtagkoaalbapnmaaChecked
import GoSem.Claim
import GoSem.ClaimJoined
import GoSem.ClaimMapViews
import Derived.JoinedTies
import Derived.KernelRfl
namespace Go.Proofs.Ytagkoaalbapnmaa
/- THE CELL 'sum', in the pinned program and in every row, IS THE sha256 OF THE DUMP (.gsa) THAT YtagkoaalbapnmaaProg.lean LOADS. Nothing in Lean hashes anything: it is a label: what it is worth is what the hold of that sum in a sandbox is worth. -/
noncomputable def Try.pinned : Pinned := { name := "ytagkoaalbapnmaa", sum := "0bd4531752abfaff86d9eb17735932e49d0326b26c8dc42182002bb6816e873c", checked := Try.checked }
namespace Rows
def none {H : Type} : Left H := { results := [], args := [] }

/-- 'laws.FnExactOutSort': WHATEVER THE INPUT: true; the input reads as it did. -/
def fnExactOutSortSpec : ChangeSpec := { name := "fnExactOutSort", fn := fun _ => fun
  | [d] => { results := [.lit (.bool true)], args := [d] }
  | _ => none }
def fnExactOutSortRow : OpenClaim := { program := "ytagkoaalbapnmaa", sum := "0bd4531752abfaff86d9eb17735932e49d0326b26c8dc42182002bb6816e873c", func := "loop.example/slackwater/laws.FnExactOutSort", spec := "fnExactOutSort", unfollowed := true, recurses := true, plainKeys := false, apart := false }
def FnExactOutSortSaid : Prop := fnExactOutSortRow.holds Try.pinned (OpenSpec.ofChange fnExactOutSortSpec)

/-- ITS FALSE NEIGHBOUR: 'it returns false'. Refute it at one input. -/
def fnExactOutSortWrong : ChangeSpec := { name := "fnExactOutSort", fn := fun _ => fun
  | [d] => { results := [.lit (.bool false)], args := [d] }
  | _ => none }
def FnExactOutSortWrongFalsely : Prop := fnExactOutSortRow.holds Try.pinned (OpenSpec.ofChange fnExactOutSortWrong)

/-- 'laws.FnExactEventSort': WHATEVER THE INPUT: true; the input reads as it did. -/
def fnExactEventSortSpec : ChangeSpec := { name := "fnExactEventSort", fn := fun _ => fun
  | [d] => { results := [.lit (.bool true)], args := [d] }
  | _ => none }
def fnExactEventSortRow : OpenClaim := { program := "ytagkoaalbapnmaa", sum := "0bd4531752abfaff86d9eb17735932e49d0326b26c8dc42182002bb6816e873c", func := "loop.example/slackwater/laws.FnExactEventSort", spec := "fnExactEventSort", unfollowed := true, recurses := true, plainKeys := false, apart := false }
def FnExactEventSortSaid : Prop := fnExactEventSortRow.holds Try.pinned (OpenSpec.ofChange fnExactEventSortSpec)

/-- ITS FALSE NEIGHBOUR: 'it returns false'. Refute it at one input. -/
def fnExactEventSortWrong : ChangeSpec := { name := "fnExactEventSort", fn := fun _ => fun
  | [d] => { results := [.lit (.bool false)], args := [d] }
  | _ => none }
def FnExactEventSortWrongFalsely : Prop := fnExactEventSortRow.holds Try.pinned (OpenSpec.ofChange fnExactEventSortWrong)

/-- 'laws.FnExactAppOk': WHATEVER THE INPUT: true; the input reads as it did. -/
def fnExactAppOkSpec : ChangeSpec := { name := "fnExactAppOk", fn := fun _ => fun
  | [d] => { results := [.lit (.bool true)], args := [d] }
  | _ => none }
def fnExactAppOkRow : OpenClaim := { program := "ytagkoaalbapnmaa", sum := "0bd4531752abfaff86d9eb17735932e49d0326b26c8dc42182002bb6816e873c", func := "loop.example/slackwater/laws.FnExactAppOk", spec := "fnExactAppOk", plainKeys := false, apart := false }
def FnExactAppOkSaid : Prop := fnExactAppOkRow.holds Try.pinned (OpenSpec.ofChange fnExactAppOkSpec)

/-- ITS FALSE NEIGHBOUR: 'it returns false'. Refute it at one input. -/
def fnExactAppOkWrong : ChangeSpec := { name := "fnExactAppOk", fn := fun _ => fun
  | [d] => { results := [.lit (.bool false)], args := [d] }
  | _ => none }
def FnExactAppOkWrongFalsely : Prop := fnExactAppOkRow.holds Try.pinned (OpenSpec.ofChange fnExactAppOkWrong)

/-- 'laws.FnExactSimOk': WHATEVER THE INPUT: true; the input reads as it did. -/
def fnExactSimOkSpec : ChangeSpec := { name := "fnExactSimOk", fn := fun _ => fun
  | [d] => { results := [.lit (.bool true)], args := [d] }
  | _ => none }
def fnExactSimOkRow : OpenClaim := { program := "ytagkoaalbapnmaa", sum := "0bd4531752abfaff86d9eb17735932e49d0326b26c8dc42182002bb6816e873c", func := "loop.example/slackwater/laws.FnExactSimOk", spec := "fnExactSimOk", plainKeys := false, apart := false }
def FnExactSimOkSaid : Prop := fnExactSimOkRow.holds Try.pinned (OpenSpec.ofChange fnExactSimOkSpec)

/-- ITS FALSE NEIGHBOUR: 'it returns false'. Refute it at one input. -/
def fnExactSimOkWrong : ChangeSpec := { name := "fnExactSimOk", fn := fun _ => fun
  | [d] => { results := [.lit (.bool false)], args := [d] }
  | _ => none }
def FnExactSimOkWrongFalsely : Prop := fnExactSimOkRow.holds Try.pinned (OpenSpec.ofChange fnExactSimOkWrong)

/-- 'laws.FnExactSimStart': WHATEVER THE INPUT: true; the input reads as it did. -/
def fnExactSimStartSpec : ChangeSpec := { name := "fnExactSimStart", fn := fun _ => fun
  | [] => { results := [.lit (.bool true)], args := [] }
  | _ => none }
def fnExactSimStartRow : OpenClaim := { program := "ytagkoaalbapnmaa", sum := "0bd4531752abfaff86d9eb17735932e49d0326b26c8dc42182002bb6816e873c", func := "loop.example/slackwater/laws.FnExactSimStart", spec := "fnExactSimStart", unfollowed := true, recurses := true, plainKeys := false, apart := false }
def FnExactSimStartSaid : Prop := fnExactSimStartRow.holds Try.pinned (OpenSpec.ofChange fnExactSimStartSpec)

/-- ITS FALSE NEIGHBOUR: 'it returns false'. Refute it at one input. -/
def fnExactSimStartWrong : ChangeSpec := { name := "fnExactSimStart", fn := fun _ => fun
  | [] => { results := [.lit (.bool false)], args := [] }
  | _ => none }
def FnExactSimStartWrongFalsely : Prop := fnExactSimStartRow.holds Try.pinned (OpenSpec.ofChange fnExactSimStartWrong)

/- THE SECOND FORM. 'bulk': how many values and letters a reading holds, each counted each time it is reached (what is shared counts as often as it is met; a slice's spare places count too). A statement '..UptoSaid' is the law's where the arguments, and the package variables that the reading takes, are together of bulk at most 1048576: NARROWER than '..Said'. Prove '..Said' where nothing that the law and all that it calls make is longer than what came in: it says more and counts as full. Else prove '..UptoSaid'. A law counts once. -/
mutual
def uptoBulk {H : Type} : DataW H → Nat
  | .lit (.string bytes) => bytes.length + 1
  | .lit _ => 1
  | .nil => 1
  | .ptr d => uptoBulk d + 1
  | .slice elems spare => uptoBulkAll elems + uptoBulkAll spare + 1
  | .agg parts => uptoBulkAll parts + 1
  | .iface _ d => uptoBulk d + 1
  | .map entries => uptoBulkEntries entries + 1
  | .held _ => 1
def uptoBulkAll {H : Type} : List (DataW H) → Nat
  | [] => 0
  | d :: r => uptoBulk d + uptoBulkAll r
def uptoBulkEntries {H : Type} : List (Lit × DataW H) → Nat
  | [] => 0
  | x :: r => uptoBulkEntry x + uptoBulkEntries r
def uptoBulkEntry {H : Type} : Lit × DataW H → Nat
  | (.string bytes, d) => bytes.length + uptoBulk d + 1
  | (_, d) => uptoBulk d + 1
 end
def uptoSmall : (H : Type) → List (DataW H) → Bool := fun _ ds => decide (uptoBulkAll ds ≤ 1048576)
def OpenSpec.upto (s : _root_.Go.ChangeSpec) : _root_.Go.OpenSpec := { _root_.Go.OpenSpec.ofChange s with cond := some uptoSmall }

/-- 'laws.FnExactOutSort', WHERE WHAT IT READS IS OF BULK AT MOST 1048576: true; the input reads as it did. -/
def fnExactOutSortUptoRow : OpenClaim := { program := "ytagkoaalbapnmaa", sum := "0bd4531752abfaff86d9eb17735932e49d0326b26c8dc42182002bb6816e873c", func := "loop.example/slackwater/laws.FnExactOutSort", spec := "fnExactOutSort", unfollowed := true, recurses := true, plainKeys := false, apart := false, narrowed := true }
def FnExactOutSortUptoSaid : Prop := fnExactOutSortUptoRow.holds Try.pinned (OpenSpec.upto fnExactOutSortSpec)

/-- 'laws.FnExactEventSort', WHERE WHAT IT READS IS OF BULK AT MOST 1048576: true; the input reads as it did. -/
def fnExactEventSortUptoRow : OpenClaim := { program := "ytagkoaalbapnmaa", sum := "0bd4531752abfaff86d9eb17735932e49d0326b26c8dc42182002bb6816e873c", func := "loop.example/slackwater/laws.FnExactEventSort", spec := "fnExactEventSort", unfollowed := true, recurses := true, plainKeys := false, apart := false, narrowed := true }
def FnExactEventSortUptoSaid : Prop := fnExactEventSortUptoRow.holds Try.pinned (OpenSpec.upto fnExactEventSortSpec)

/-- 'laws.FnExactAppOk', WHERE WHAT IT READS IS OF BULK AT MOST 1048576: true; the input reads as it did. -/
def fnExactAppOkUptoRow : OpenClaim := { program := "ytagkoaalbapnmaa", sum := "0bd4531752abfaff86d9eb17735932e49d0326b26c8dc42182002bb6816e873c", func := "loop.example/slackwater/laws.FnExactAppOk", spec := "fnExactAppOk", plainKeys := false, apart := false, narrowed := true }
def FnExactAppOkUptoSaid : Prop := fnExactAppOkUptoRow.holds Try.pinned (OpenSpec.upto fnExactAppOkSpec)

/-- 'laws.FnExactSimOk', WHERE WHAT IT READS IS OF BULK AT MOST 1048576: true; the input reads as it did. -/
def fnExactSimOkUptoRow : OpenClaim := { program := "ytagkoaalbapnmaa", sum := "0bd4531752abfaff86d9eb17735932e49d0326b26c8dc42182002bb6816e873c", func := "loop.example/slackwater/laws.FnExactSimOk", spec := "fnExactSimOk", plainKeys := false, apart := false, narrowed := true }
def FnExactSimOkUptoSaid : Prop := fnExactSimOkUptoRow.holds Try.pinned (OpenSpec.upto fnExactSimOkSpec)

/-- 'laws.FnExactSimStart', WHERE WHAT IT READS IS OF BULK AT MOST 1048576: true; the input reads as it did. -/
def fnExactSimStartUptoRow : OpenClaim := { program := "ytagkoaalbapnmaa", sum := "0bd4531752abfaff86d9eb17735932e49d0326b26c8dc42182002bb6816e873c", func := "loop.example/slackwater/laws.FnExactSimStart", spec := "fnExactSimStart", unfollowed := true, recurses := true, plainKeys := false, apart := false, narrowed := true }
def FnExactSimStartUptoSaid : Prop := fnExactSimStartUptoRow.holds Try.pinned (OpenSpec.upto fnExactSimStartSpec)

end Rows
end Go.Proofs.Ytagkoaalbapnmaa
