/-
  No cell of these rows narrows 'for every input' (looked for: loops, veiled, ifaces, maps, wideKeys, modest, calm, conditions, laid).
  DERIVED. THE GIVEN ROWS OF THIS SEAT. 10 by the template 'for every input the law returns true; each argument reads behind the call as it read before'; 0 by the template 'total and deterministic' (their statements: YtjgpacfhokpfdaaTotals.lean).
  GIVEN WITH THE SEED: the statements are not yours to turn. If you find one false, say at which input.
  Laid BY PROGRAM, IN A SANDBOX (cutbox-rows.mjs): the forced cells as the released guide's own fill.sh prints them over the translation 5415741a5ba30156… (all of the seat's roots in one cut). By AI agents, Wed Nov 11 2026. No macro, syntax, notation, axiom, sorry.
-/
import Derived.Test.YtjgpacfhokpfdaaChecked
import GoSem.Claim
import GoSem.ClaimJoined
import GoSem.ClaimMapViews
import Derived.JoinedTies
import Derived.KernelRfl
namespace Go.Proofs.Ytjgpacfhokpfdaa
/- THE CELL 'sum', in the pinned program and in every row, IS THE sha256 OF THE DUMP (.gsa) THAT YtjgpacfhokpfdaaProg.lean LOADS. Nothing in Lean hashes anything: it is a label: what it is worth is what the hold of that sum in a sandbox is worth. -/
noncomputable def Try.pinned : Pinned := { name := "ytjgpacfhokpfdaa", sum := "5415741a5ba30156f3812ec58928a46cc48a120b8172f6b4f756d9b1584e963e", checked := Try.checked }
namespace Rows
def none {H : Type} : Left H := { results := [], args := [] }

/-- 'laws.FnExactLaneOk': WHATEVER THE INPUT: true; the input reads as it did. -/
def fnExactLaneOkSpec : ChangeSpec := { name := "fnExactLaneOk", fn := fun _ => fun
  | [d] => { results := [.lit (.bool true)], args := [d] }
  | _ => none }
def fnExactLaneOkRow : OpenClaim := { program := "ytjgpacfhokpfdaa", sum := "5415741a5ba30156f3812ec58928a46cc48a120b8172f6b4f756d9b1584e963e", func := "loop.example/slackwater/laws.FnExactLaneOk", spec := "fnExactLaneOk", plainKeys := false, apart := false }
def FnExactLaneOkSaid : Prop := fnExactLaneOkRow.holds Try.pinned (OpenSpec.ofChange fnExactLaneOkSpec)

/-- ITS FALSE NEIGHBOUR: 'it returns false'. Refute it at one input. -/
def fnExactLaneOkWrong : ChangeSpec := { name := "fnExactLaneOk", fn := fun _ => fun
  | [d] => { results := [.lit (.bool false)], args := [d] }
  | _ => none }
def FnExactLaneOkWrongFalsely : Prop := fnExactLaneOkRow.holds Try.pinned (OpenSpec.ofChange fnExactLaneOkWrong)

/-- 'laws.FnExactLaneNow': WHATEVER THE INPUT: true; the input reads as it did. -/
def fnExactLaneNowSpec : ChangeSpec := { name := "fnExactLaneNow", fn := fun _ => fun
  | [d] => { results := [.lit (.bool true)], args := [d] }
  | _ => none }
def fnExactLaneNowRow : OpenClaim := { program := "ytjgpacfhokpfdaa", sum := "5415741a5ba30156f3812ec58928a46cc48a120b8172f6b4f756d9b1584e963e", func := "loop.example/slackwater/laws.FnExactLaneNow", spec := "fnExactLaneNow", plainKeys := false, apart := false }
def FnExactLaneNowSaid : Prop := fnExactLaneNowRow.holds Try.pinned (OpenSpec.ofChange fnExactLaneNowSpec)

/-- ITS FALSE NEIGHBOUR: 'it returns false'. Refute it at one input. -/
def fnExactLaneNowWrong : ChangeSpec := { name := "fnExactLaneNow", fn := fun _ => fun
  | [d] => { results := [.lit (.bool false)], args := [d] }
  | _ => none }
def FnExactLaneNowWrongFalsely : Prop := fnExactLaneNowRow.holds Try.pinned (OpenSpec.ofChange fnExactLaneNowWrong)

/-- 'laws.FnExactLaneNext': WHATEVER THE INPUT: true; the input reads as it did. -/
def fnExactLaneNextSpec : ChangeSpec := { name := "fnExactLaneNext", fn := fun _ => fun
  | [d1, d2] => { results := [.lit (.bool true)], args := [d1, d2] }
  | _ => none }
def fnExactLaneNextRow : OpenClaim := { program := "ytjgpacfhokpfdaa", sum := "5415741a5ba30156f3812ec58928a46cc48a120b8172f6b4f756d9b1584e963e", func := "loop.example/slackwater/laws.FnExactLaneNext", spec := "fnExactLaneNext", plainKeys := false, apart := false }
def FnExactLaneNextSaid : Prop := fnExactLaneNextRow.holds Try.pinned (OpenSpec.ofChange fnExactLaneNextSpec)

/-- ITS FALSE NEIGHBOUR: 'it returns false'. Refute it at one input. -/
def fnExactLaneNextWrong : ChangeSpec := { name := "fnExactLaneNext", fn := fun _ => fun
  | [d1, d2] => { results := [.lit (.bool false)], args := [d1, d2] }
  | _ => none }
def FnExactLaneNextWrongFalsely : Prop := fnExactLaneNextRow.holds Try.pinned (OpenSpec.ofChange fnExactLaneNextWrong)

/-- 'laws.FnExactLaneCut': WHATEVER THE INPUT: true; the input reads as it did. -/
def fnExactLaneCutSpec : ChangeSpec := { name := "fnExactLaneCut", fn := fun _ => fun
  | [d1, d2] => { results := [.lit (.bool true)], args := [d1, d2] }
  | _ => none }
def fnExactLaneCutRow : OpenClaim := { program := "ytjgpacfhokpfdaa", sum := "5415741a5ba30156f3812ec58928a46cc48a120b8172f6b4f756d9b1584e963e", func := "loop.example/slackwater/laws.FnExactLaneCut", spec := "fnExactLaneCut", unfollowed := true, recurses := true, plainKeys := false, apart := false }
def FnExactLaneCutSaid : Prop := fnExactLaneCutRow.holds Try.pinned (OpenSpec.ofChange fnExactLaneCutSpec)

/-- ITS FALSE NEIGHBOUR: 'it returns false'. Refute it at one input. -/
def fnExactLaneCutWrong : ChangeSpec := { name := "fnExactLaneCut", fn := fun _ => fun
  | [d1, d2] => { results := [.lit (.bool false)], args := [d1, d2] }
  | _ => none }
def FnExactLaneCutWrongFalsely : Prop := fnExactLaneCutRow.holds Try.pinned (OpenSpec.ofChange fnExactLaneCutWrong)

/-- 'laws.FnExactLaneSettle': WHATEVER THE INPUT: true; the input reads as it did. -/
def fnExactLaneSettleSpec : ChangeSpec := { name := "fnExactLaneSettle", fn := fun _ => fun
  | [d1, d2] => { results := [.lit (.bool true)], args := [d1, d2] }
  | _ => none }
def fnExactLaneSettleRow : OpenClaim := { program := "ytjgpacfhokpfdaa", sum := "5415741a5ba30156f3812ec58928a46cc48a120b8172f6b4f756d9b1584e963e", func := "loop.example/slackwater/laws.FnExactLaneSettle", spec := "fnExactLaneSettle", unfollowed := true, recurses := true, plainKeys := false, apart := false }
def FnExactLaneSettleSaid : Prop := fnExactLaneSettleRow.holds Try.pinned (OpenSpec.ofChange fnExactLaneSettleSpec)

/-- ITS FALSE NEIGHBOUR: 'it returns false'. Refute it at one input. -/
def fnExactLaneSettleWrong : ChangeSpec := { name := "fnExactLaneSettle", fn := fun _ => fun
  | [d1, d2] => { results := [.lit (.bool false)], args := [d1, d2] }
  | _ => none }
def FnExactLaneSettleWrongFalsely : Prop := fnExactLaneSettleRow.holds Try.pinned (OpenSpec.ofChange fnExactLaneSettleWrong)

/-- 'laws.FnWordOk': WHATEVER THE INPUT: true; the input reads as it did. -/
def fnWordOkSpec : ChangeSpec := { name := "fnWordOk", fn := fun _ => fun
  | [d] => { results := [.lit (.bool true)], args := [d] }
  | _ => none }
def fnWordOkRow : OpenClaim := { program := "ytjgpacfhokpfdaa", sum := "5415741a5ba30156f3812ec58928a46cc48a120b8172f6b4f756d9b1584e963e", func := "loop.example/slackwater/laws.FnWordOk", spec := "fnWordOk", plainKeys := false, apart := false }
def FnWordOkSaid : Prop := fnWordOkRow.holds Try.pinned (OpenSpec.ofChange fnWordOkSpec)

/-- ITS FALSE NEIGHBOUR: 'it returns false'. Refute it at one input. -/
def fnWordOkWrong : ChangeSpec := { name := "fnWordOk", fn := fun _ => fun
  | [d] => { results := [.lit (.bool false)], args := [d] }
  | _ => none }
def FnWordOkWrongFalsely : Prop := fnWordOkRow.holds Try.pinned (OpenSpec.ofChange fnWordOkWrong)

/-- 'laws.FnExactWordOk': WHATEVER THE INPUT: true; the input reads as it did. -/
def fnExactWordOkSpec : ChangeSpec := { name := "fnExactWordOk", fn := fun _ => fun
  | [d] => { results := [.lit (.bool true)], args := [d] }
  | _ => none }
def fnExactWordOkRow : OpenClaim := { program := "ytjgpacfhokpfdaa", sum := "5415741a5ba30156f3812ec58928a46cc48a120b8172f6b4f756d9b1584e963e", func := "loop.example/slackwater/laws.FnExactWordOk", spec := "fnExactWordOk", plainKeys := false, apart := false }
def FnExactWordOkSaid : Prop := fnExactWordOkRow.holds Try.pinned (OpenSpec.ofChange fnExactWordOkSpec)

/-- ITS FALSE NEIGHBOUR: 'it returns false'. Refute it at one input. -/
def fnExactWordOkWrong : ChangeSpec := { name := "fnExactWordOk", fn := fun _ => fun
  | [d] => { results := [.lit (.bool false)], args := [d] }
  | _ => none }
def FnExactWordOkWrongFalsely : Prop := fnExactWordOkRow.holds Try.pinned (OpenSpec.ofChange fnExactWordOkWrong)

/-- 'laws.FnExactWordPack': WHATEVER THE INPUT: true; the input reads as it did. -/
def fnExactWordPackSpec : ChangeSpec := { name := "fnExactWordPack", fn := fun _ => fun
  | [d] => { results := [.lit (.bool true)], args := [d] }
  | _ => none }
def fnExactWordPackRow : OpenClaim := { program := "ytjgpacfhokpfdaa", sum := "5415741a5ba30156f3812ec58928a46cc48a120b8172f6b4f756d9b1584e963e", func := "loop.example/slackwater/laws.FnExactWordPack", spec := "fnExactWordPack", plainKeys := false, apart := false }
def FnExactWordPackSaid : Prop := fnExactWordPackRow.holds Try.pinned (OpenSpec.ofChange fnExactWordPackSpec)

/-- ITS FALSE NEIGHBOUR: 'it returns false'. Refute it at one input. -/
def fnExactWordPackWrong : ChangeSpec := { name := "fnExactWordPack", fn := fun _ => fun
  | [d] => { results := [.lit (.bool false)], args := [d] }
  | _ => none }
def FnExactWordPackWrongFalsely : Prop := fnExactWordPackRow.holds Try.pinned (OpenSpec.ofChange fnExactWordPackWrong)

/-- 'laws.FnWordBack': WHATEVER THE INPUT: true; the input reads as it did. -/
def fnWordBackSpec : ChangeSpec := { name := "fnWordBack", fn := fun _ => fun
  | [d] => { results := [.lit (.bool true)], args := [d] }
  | _ => none }
def fnWordBackRow : OpenClaim := { program := "ytjgpacfhokpfdaa", sum := "5415741a5ba30156f3812ec58928a46cc48a120b8172f6b4f756d9b1584e963e", func := "loop.example/slackwater/laws.FnWordBack", spec := "fnWordBack", inPlace := ["internal/reflectlite.TypeOf"], unfollowed := true, recurses := true, plainKeys := false, apart := false }
def FnWordBackSaid : Prop := fnWordBackRow.holds Try.pinned (OpenSpec.ofChange fnWordBackSpec)

/-- ITS FALSE NEIGHBOUR: 'it returns false'. Refute it at one input. -/
def fnWordBackWrong : ChangeSpec := { name := "fnWordBack", fn := fun _ => fun
  | [d] => { results := [.lit (.bool false)], args := [d] }
  | _ => none }
def FnWordBackWrongFalsely : Prop := fnWordBackRow.holds Try.pinned (OpenSpec.ofChange fnWordBackWrong)

/-- 'laws.FnExactHubOk': WHATEVER THE INPUT: true; the input reads as it did. -/
def fnExactHubOkSpec : ChangeSpec := { name := "fnExactHubOk", fn := fun _ => fun
  | [d] => { results := [.lit (.bool true)], args := [d] }
  | _ => none }
def fnExactHubOkRow : OpenClaim := { program := "ytjgpacfhokpfdaa", sum := "5415741a5ba30156f3812ec58928a46cc48a120b8172f6b4f756d9b1584e963e", func := "loop.example/slackwater/laws.FnExactHubOk", spec := "fnExactHubOk", plainKeys := false, apart := false }
def FnExactHubOkSaid : Prop := fnExactHubOkRow.holds Try.pinned (OpenSpec.ofChange fnExactHubOkSpec)

/-- ITS FALSE NEIGHBOUR: 'it returns false'. Refute it at one input. -/
def fnExactHubOkWrong : ChangeSpec := { name := "fnExactHubOk", fn := fun _ => fun
  | [d] => { results := [.lit (.bool false)], args := [d] }
  | _ => none }
def FnExactHubOkWrongFalsely : Prop := fnExactHubOkRow.holds Try.pinned (OpenSpec.ofChange fnExactHubOkWrong)

/- THE SECOND FORM. 'bulk': how many values and letters a reading holds, each counted each time it is reached (what is shared counts as often as it is met; a slice's spare places count too). A statement '..UptoSaid' is the law's where the arguments, and the package variables that the reading takes, are together of bulk at most 1048576: NARROWER than '..Said'. Prove '..Said' where nothing that the law and all that it calls make is longer than what came in: it says more and counts as full. Else prove '..UptoSaid'. A law counts once. -/
mutual
def uptoBulk {H : Type} : DataW H → Nat
  | .lit (.string bytes) => bytes.length + 1
  | .lit _ => 1
  | .nil => 1
  | .ptr d => uptoBulk d + 1
  | .slice elems spare => uptoBulkAll elems + uptoBulkAll spare + 1
  | .agg parts => uptoBulkAll parts + 1
  | .iface _ d => uptoBulk d + 1
  | .map entries => uptoBulkEntries entries + 1
  | .held _ => 1
def uptoBulkAll {H : Type} : List (DataW H) → Nat
  | [] => 0
  | d :: r => uptoBulk d + uptoBulkAll r
def uptoBulkEntries {H : Type} : List (Lit × DataW H) → Nat
  | [] => 0
  | x :: r => uptoBulkEntry x + uptoBulkEntries r
def uptoBulkEntry {H : Type} : Lit × DataW H → Nat
  | (.string bytes, d) => bytes.length + uptoBulk d + 1
  | (_, d) => uptoBulk d + 1
 end
def uptoSmall : (H : Type) → List (DataW H) → Bool := fun _ ds => decide (uptoBulkAll ds ≤ 1048576)
def OpenSpec.upto (s : _root_.Go.ChangeSpec) : _root_.Go.OpenSpec := { _root_.Go.OpenSpec.ofChange s with cond := some uptoSmall }

/-- 'laws.FnExactLaneOk', WHERE WHAT IT READS IS OF BULK AT MOST 1048576: true; the input reads as it did. -/
def fnExactLaneOkUptoRow : OpenClaim := { program := "ytjgpacfhokpfdaa", sum := "5415741a5ba30156f3812ec58928a46cc48a120b8172f6b4f756d9b1584e963e", func := "loop.example/slackwater/laws.FnExactLaneOk", spec := "fnExactLaneOk", plainKeys := false, apart := false, narrowed := true }
def FnExactLaneOkUptoSaid : Prop := fnExactLaneOkUptoRow.holds Try.pinned (OpenSpec.upto fnExactLaneOkSpec)

/-- 'laws.FnExactLaneNow', WHERE WHAT IT READS IS OF BULK AT MOST 1048576: true; the input reads as it did. -/
def fnExactLaneNowUptoRow : OpenClaim := { program := "ytjgpacfhokpfdaa", sum := "5415741a5ba30156f3812ec58928a46cc48a120b8172f6b4f756d9b1584e963e", func := "loop.example/slackwater/laws.FnExactLaneNow", spec := "fnExactLaneNow", plainKeys := false, apart := false, narrowed := true }
def FnExactLaneNowUptoSaid : Prop := fnExactLaneNowUptoRow.holds Try.pinned (OpenSpec.upto fnExactLaneNowSpec)

/-- 'laws.FnExactLaneNext', WHERE WHAT IT READS IS OF BULK AT MOST 1048576: true; the input reads as it did. -/
def fnExactLaneNextUptoRow : OpenClaim := { program := "ytjgpacfhokpfdaa", sum := "5415741a5ba30156f3812ec58928a46cc48a120b8172f6b4f756d9b1584e963e", func := "loop.example/slackwater/laws.FnExactLaneNext", spec := "fnExactLaneNext", plainKeys := false, apart := false, narrowed := true }
def FnExactLaneNextUptoSaid : Prop := fnExactLaneNextUptoRow.holds Try.pinned (OpenSpec.upto fnExactLaneNextSpec)

/-- 'laws.FnExactLaneCut', WHERE WHAT IT READS IS OF BULK AT MOST 1048576: true; the input reads as it did. -/
def fnExactLaneCutUptoRow : OpenClaim := { program := "ytjgpacfhokpfdaa", sum := "5415741a5ba30156f3812ec58928a46cc48a120b8172f6b4f756d9b1584e963e", func := "loop.example/slackwater/laws.FnExactLaneCut", spec := "fnExactLaneCut", unfollowed := true, recurses := true, plainKeys := false, apart := false, narrowed := true }
def FnExactLaneCutUptoSaid : Prop := fnExactLaneCutUptoRow.holds Try.pinned (OpenSpec.upto fnExactLaneCutSpec)

/-- 'laws.FnExactLaneSettle', WHERE WHAT IT READS IS OF BULK AT MOST 1048576: true; the input reads as it did. -/
def fnExactLaneSettleUptoRow : OpenClaim := { program := "ytjgpacfhokpfdaa", sum := "5415741a5ba30156f3812ec58928a46cc48a120b8172f6b4f756d9b1584e963e", func := "loop.example/slackwater/laws.FnExactLaneSettle", spec := "fnExactLaneSettle", unfollowed := true, recurses := true, plainKeys := false, apart := false, narrowed := true }
def FnExactLaneSettleUptoSaid : Prop := fnExactLaneSettleUptoRow.holds Try.pinned (OpenSpec.upto fnExactLaneSettleSpec)

/-- 'laws.FnWordOk', WHERE WHAT IT READS IS OF BULK AT MOST 1048576: true; the input reads as it did. -/
def fnWordOkUptoRow : OpenClaim := { program := "ytjgpacfhokpfdaa", sum := "5415741a5ba30156f3812ec58928a46cc48a120b8172f6b4f756d9b1584e963e", func := "loop.example/slackwater/laws.FnWordOk", spec := "fnWordOk", plainKeys := false, apart := false, narrowed := true }
def FnWordOkUptoSaid : Prop := fnWordOkUptoRow.holds Try.pinned (OpenSpec.upto fnWordOkSpec)

/-- 'laws.FnExactWordOk', WHERE WHAT IT READS IS OF BULK AT MOST 1048576: true; the input reads as it did. -/
def fnExactWordOkUptoRow : OpenClaim := { program := "ytjgpacfhokpfdaa", sum := "5415741a5ba30156f3812ec58928a46cc48a120b8172f6b4f756d9b1584e963e", func := "loop.example/slackwater/laws.FnExactWordOk", spec := "fnExactWordOk", plainKeys := false, apart := false, narrowed := true }
def FnExactWordOkUptoSaid : Prop := fnExactWordOkUptoRow.holds Try.pinned (OpenSpec.upto fnExactWordOkSpec)

/-- 'laws.FnExactWordPack', WHERE WHAT IT READS IS OF BULK AT MOST 1048576: true; the input reads as it did. -/
def fnExactWordPackUptoRow : OpenClaim := { program := "ytjgpacfhokpfdaa", sum := "5415741a5ba30156f3812ec58928a46cc48a120b8172f6b4f756d9b1584e963e", func := "loop.example/slackwater/laws.FnExactWordPack", spec := "fnExactWordPack", plainKeys := false, apart := false, narrowed := true }
def FnExactWordPackUptoSaid : Prop := fnExactWordPackUptoRow.holds Try.pinned (OpenSpec.upto fnExactWordPackSpec)

/-- 'laws.FnWordBack', WHERE WHAT IT READS IS OF BULK AT MOST 1048576: true; the input reads as it did. -/
def fnWordBackUptoRow : OpenClaim := { program := "ytjgpacfhokpfdaa", sum := "5415741a5ba30156f3812ec58928a46cc48a120b8172f6b4f756d9b1584e963e", func := "loop.example/slackwater/laws.FnWordBack", spec := "fnWordBack", inPlace := ["internal/reflectlite.TypeOf"], unfollowed := true, recurses := true, plainKeys := false, apart := false, narrowed := true }
def FnWordBackUptoSaid : Prop := fnWordBackUptoRow.holds Try.pinned (OpenSpec.upto fnWordBackSpec)

/-- 'laws.FnExactHubOk', WHERE WHAT IT READS IS OF BULK AT MOST 1048576: true; the input reads as it did. -/
def fnExactHubOkUptoRow : OpenClaim := { program := "ytjgpacfhokpfdaa", sum := "5415741a5ba30156f3812ec58928a46cc48a120b8172f6b4f756d9b1584e963e", func := "loop.example/slackwater/laws.FnExactHubOk", spec := "fnExactHubOk", plainKeys := false, apart := false, narrowed := true }
def FnExactHubOkUptoSaid : Prop := fnExactHubOkUptoRow.holds Try.pinned (OpenSpec.upto fnExactHubOkSpec)

end Rows
end Go.Proofs.Ytjgpacfhokpfdaa
