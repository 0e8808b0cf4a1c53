/-
  No cell of these rows narrows 'for every input' (looked for: loops, veiled, ifaces, maps, wideKeys, modest, calm, conditions, laid).
  DERIVED. THE GIVEN ROWS OF THIS SEAT. 8 by the template 'for every input the law returns true; each argument reads behind the call as it read before'; 0 by the template 'total and deterministic' (their statements: YtkggdegpdmnjoaaGreatTotals.lean).
  GIVEN WITH THE SEED: the statements are not yours to turn. If you find one false, say at which input.
  Laid BY PROGRAM, IN A SANDBOX (cutbox-rows.mjs): the forced cells as the released guide's own fill.sh prints them over the translation e34d893ae341d11d… (all of the seat's roots in one cut). By AI agents, Wed Nov 11 2026. No macro, syntax, notation, axiom, sorry.
-/
import Derived.Test.YtkggdegpdmnjoaaGreatChecked
import GoSem.Claim
import GoSem.ClaimJoined
import GoSem.ClaimMapViews
import Derived.JoinedTies
import Derived.KernelRfl
namespace Go.Proofs.YtkggdegpdmnjoaaGreat
/- THE CELL 'sum', in the pinned program and in every row, IS THE sha256 OF THE DUMP (.gsa) THAT YtkggdegpdmnjoaaGreatProg.lean LOADS. Nothing in Lean hashes anything: it is a label: what it is worth is what the hold of that sum in a sandbox is worth. -/
noncomputable def Tryz.pinned : Pinned := { name := "ytkggdegpdmnjoaagreat", sum := "e34d893ae341d11d099ad3c5341f1396743ad6feed2ff57f6bcd604b73ba56e7", checked := Tryz.checked }
namespace Rows
def none {H : Type} : Left H := { results := [], args := [] }

/-- 'laws.FnExactNodeMin': WHATEVER THE INPUT: true; the input reads as it did. -/
def fnExactNodeMinSpec : ChangeSpec := { name := "fnExactNodeMin", fn := fun _ => fun
  | [d] => { results := [.lit (.bool true)], args := [d] }
  | _ => none }
def fnExactNodeMinRow : OpenClaim := { program := "ytkggdegpdmnjoaagreat", sum := "e34d893ae341d11d099ad3c5341f1396743ad6feed2ff57f6bcd604b73ba56e7", func := "loop.example/slackwater/laws.FnExactNodeMin", spec := "fnExactNodeMin", unfollowed := true, recurses := true, plainKeys := false, apart := false }
def FnExactNodeMinSaid : Prop := fnExactNodeMinRow.holds Tryz.pinned (OpenSpec.ofChange fnExactNodeMinSpec)

/-- ITS FALSE NEIGHBOUR: 'it returns false'. Refute it at one input. -/
def fnExactNodeMinWrong : ChangeSpec := { name := "fnExactNodeMin", fn := fun _ => fun
  | [d] => { results := [.lit (.bool false)], args := [d] }
  | _ => none }
def FnExactNodeMinWrongFalsely : Prop := fnExactNodeMinRow.holds Tryz.pinned (OpenSpec.ofChange fnExactNodeMinWrong)

/-- 'laws.FnExactNodeCame': WHATEVER THE INPUT: true; the input reads as it did. -/
def fnExactNodeCameSpec : ChangeSpec := { name := "fnExactNodeCame", fn := fun _ => fun
  | [d1, d2] => { results := [.lit (.bool true)], args := [d1, d2] }
  | _ => none }
def fnExactNodeCameRow : OpenClaim := { program := "ytkggdegpdmnjoaagreat", sum := "e34d893ae341d11d099ad3c5341f1396743ad6feed2ff57f6bcd604b73ba56e7", func := "loop.example/slackwater/laws.FnExactNodeCame", spec := "fnExactNodeCame", unfollowed := true, recurses := true, plainKeys := false, apart := false }
def FnExactNodeCameSaid : Prop := fnExactNodeCameRow.holds Tryz.pinned (OpenSpec.ofChange fnExactNodeCameSpec)

/-- ITS FALSE NEIGHBOUR: 'it returns false'. Refute it at one input. -/
def fnExactNodeCameWrong : ChangeSpec := { name := "fnExactNodeCame", fn := fun _ => fun
  | [d1, d2] => { results := [.lit (.bool false)], args := [d1, d2] }
  | _ => none }
def FnExactNodeCameWrongFalsely : Prop := fnExactNodeCameRow.holds Tryz.pinned (OpenSpec.ofChange fnExactNodeCameWrong)

/-- 'laws.FnExactNodeKeep': WHATEVER THE INPUT: true; the input reads as it did. -/
def fnExactNodeKeepSpec : ChangeSpec := { name := "fnExactNodeKeep", fn := fun _ => fun
  | [d] => { results := [.lit (.bool true)], args := [d] }
  | _ => none }
def fnExactNodeKeepRow : OpenClaim := { program := "ytkggdegpdmnjoaagreat", sum := "e34d893ae341d11d099ad3c5341f1396743ad6feed2ff57f6bcd604b73ba56e7", func := "loop.example/slackwater/laws.FnExactNodeKeep", spec := "fnExactNodeKeep", unfollowed := true, recurses := true, plainKeys := false, apart := false }
def FnExactNodeKeepSaid : Prop := fnExactNodeKeepRow.holds Tryz.pinned (OpenSpec.ofChange fnExactNodeKeepSpec)

/-- ITS FALSE NEIGHBOUR: 'it returns false'. Refute it at one input. -/
def fnExactNodeKeepWrong : ChangeSpec := { name := "fnExactNodeKeep", fn := fun _ => fun
  | [d] => { results := [.lit (.bool false)], args := [d] }
  | _ => none }
def FnExactNodeKeepWrongFalsely : Prop := fnExactNodeKeepRow.holds Tryz.pinned (OpenSpec.ofChange fnExactNodeKeepWrong)

/-- 'laws.FnExactNodeTells': WHATEVER THE INPUT: true; the input reads as it did. -/
def fnExactNodeTellsSpec : ChangeSpec := { name := "fnExactNodeTells", fn := fun _ => fun
  | [d1, d2] => { results := [.lit (.bool true)], args := [d1, d2] }
  | _ => none }
def fnExactNodeTellsRow : OpenClaim := { program := "ytkggdegpdmnjoaagreat", sum := "e34d893ae341d11d099ad3c5341f1396743ad6feed2ff57f6bcd604b73ba56e7", func := "loop.example/slackwater/laws.FnExactNodeTells", spec := "fnExactNodeTells", unfollowed := true, recurses := true, plainKeys := false, apart := false }
def FnExactNodeTellsSaid : Prop := fnExactNodeTellsRow.holds Tryz.pinned (OpenSpec.ofChange fnExactNodeTellsSpec)

/-- ITS FALSE NEIGHBOUR: 'it returns false'. Refute it at one input. -/
def fnExactNodeTellsWrong : ChangeSpec := { name := "fnExactNodeTells", fn := fun _ => fun
  | [d1, d2] => { results := [.lit (.bool false)], args := [d1, d2] }
  | _ => none }
def FnExactNodeTellsWrongFalsely : Prop := fnExactNodeTellsRow.holds Tryz.pinned (OpenSpec.ofChange fnExactNodeTellsWrong)

/-- 'laws.FnExactHubOuts': WHATEVER THE INPUT: true; the input reads as it did. -/
def fnExactHubOutsSpec : ChangeSpec := { name := "fnExactHubOuts", fn := fun _ => fun
  | [d1, d2] => { results := [.lit (.bool true)], args := [d1, d2] }
  | _ => none }
def fnExactHubOutsRow : OpenClaim := { program := "ytkggdegpdmnjoaagreat", sum := "e34d893ae341d11d099ad3c5341f1396743ad6feed2ff57f6bcd604b73ba56e7", func := "loop.example/slackwater/laws.FnExactHubOuts", spec := "fnExactHubOuts", unfollowed := true, recurses := true, plainKeys := false, apart := false }
def FnExactHubOutsSaid : Prop := fnExactHubOutsRow.holds Tryz.pinned (OpenSpec.ofChange fnExactHubOutsSpec)

/-- ITS FALSE NEIGHBOUR: 'it returns false'. Refute it at one input. -/
def fnExactHubOutsWrong : ChangeSpec := { name := "fnExactHubOuts", fn := fun _ => fun
  | [d1, d2] => { results := [.lit (.bool false)], args := [d1, d2] }
  | _ => none }
def FnExactHubOutsWrongFalsely : Prop := fnExactHubOutsRow.holds Tryz.pinned (OpenSpec.ofChange fnExactHubOutsWrong)

/-- 'laws.FnLaneCut': WHATEVER THE INPUT: true; the input reads as it did. -/
def fnLaneCutSpec : ChangeSpec := { name := "fnLaneCut", fn := fun _ => fun
  | [d] => { results := [.lit (.bool true)], args := [d] }
  | _ => none }
def fnLaneCutRow : OpenClaim := { program := "ytkggdegpdmnjoaagreat", sum := "e34d893ae341d11d099ad3c5341f1396743ad6feed2ff57f6bcd604b73ba56e7", func := "loop.example/slackwater/laws.FnLaneCut", spec := "fnLaneCut", unfollowed := true, recurses := true, plainKeys := false, apart := false }
def FnLaneCutSaid : Prop := fnLaneCutRow.holds Tryz.pinned (OpenSpec.ofChange fnLaneCutSpec)

/-- ITS FALSE NEIGHBOUR: 'it returns false'. Refute it at one input. -/
def fnLaneCutWrong : ChangeSpec := { name := "fnLaneCut", fn := fun _ => fun
  | [d] => { results := [.lit (.bool false)], args := [d] }
  | _ => none }
def FnLaneCutWrongFalsely : Prop := fnLaneCutRow.holds Tryz.pinned (OpenSpec.ofChange fnLaneCutWrong)

/-- 'laws.FnLaneMore': WHATEVER THE INPUT: true; the input reads as it did. -/
def fnLaneMoreSpec : ChangeSpec := { name := "fnLaneMore", fn := fun _ => fun
  | [d] => { results := [.lit (.bool true)], args := [d] }
  | _ => none }
def fnLaneMoreRow : OpenClaim := { program := "ytkggdegpdmnjoaagreat", sum := "e34d893ae341d11d099ad3c5341f1396743ad6feed2ff57f6bcd604b73ba56e7", func := "loop.example/slackwater/laws.FnLaneMore", spec := "fnLaneMore", unfollowed := true, recurses := true, plainKeys := false, apart := false }
def FnLaneMoreSaid : Prop := fnLaneMoreRow.holds Tryz.pinned (OpenSpec.ofChange fnLaneMoreSpec)

/-- ITS FALSE NEIGHBOUR: 'it returns false'. Refute it at one input. -/
def fnLaneMoreWrong : ChangeSpec := { name := "fnLaneMore", fn := fun _ => fun
  | [d] => { results := [.lit (.bool false)], args := [d] }
  | _ => none }
def FnLaneMoreWrongFalsely : Prop := fnLaneMoreRow.holds Tryz.pinned (OpenSpec.ofChange fnLaneMoreWrong)

/-- 'laws.FnLaneNext': WHATEVER THE INPUT: true; the input reads as it did. -/
def fnLaneNextSpec : ChangeSpec := { name := "fnLaneNext", fn := fun _ => fun
  | [d] => { results := [.lit (.bool true)], args := [d] }
  | _ => none }
def fnLaneNextRow : OpenClaim := { program := "ytkggdegpdmnjoaagreat", sum := "e34d893ae341d11d099ad3c5341f1396743ad6feed2ff57f6bcd604b73ba56e7", func := "loop.example/slackwater/laws.FnLaneNext", spec := "fnLaneNext", plainKeys := false, apart := false }
def FnLaneNextSaid : Prop := fnLaneNextRow.holds Tryz.pinned (OpenSpec.ofChange fnLaneNextSpec)

/-- ITS FALSE NEIGHBOUR: 'it returns false'. Refute it at one input. -/
def fnLaneNextWrong : ChangeSpec := { name := "fnLaneNext", fn := fun _ => fun
  | [d] => { results := [.lit (.bool false)], args := [d] }
  | _ => none }
def FnLaneNextWrongFalsely : Prop := fnLaneNextRow.holds Tryz.pinned (OpenSpec.ofChange fnLaneNextWrong)

/- THE SECOND FORM. 'bulk': how many values and letters a reading holds, each counted each time it is reached (what is shared counts as often as it is met; a slice's spare places count too). A statement '..UptoSaid' is the law's where the arguments, and the package variables that the reading takes, are together of bulk at most 1048576: NARROWER than '..Said'. Prove '..Said' where nothing that the law and all that it calls make is longer than what came in: it says more and counts as full. Else prove '..UptoSaid'. A law counts once. -/
mutual
def uptoBulk {H : Type} : DataW H → Nat
  | .lit (.string bytes) => bytes.length + 1
  | .lit _ => 1
  | .nil => 1
  | .ptr d => uptoBulk d + 1
  | .slice elems spare => uptoBulkAll elems + uptoBulkAll spare + 1
  | .agg parts => uptoBulkAll parts + 1
  | .iface _ d => uptoBulk d + 1
  | .map entries => uptoBulkEntries entries + 1
  | .held _ => 1
def uptoBulkAll {H : Type} : List (DataW H) → Nat
  | [] => 0
  | d :: r => uptoBulk d + uptoBulkAll r
def uptoBulkEntries {H : Type} : List (Lit × DataW H) → Nat
  | [] => 0
  | x :: r => uptoBulkEntry x + uptoBulkEntries r
def uptoBulkEntry {H : Type} : Lit × DataW H → Nat
  | (.string bytes, d) => bytes.length + uptoBulk d + 1
  | (_, d) => uptoBulk d + 1
 end
def uptoSmall : (H : Type) → List (DataW H) → Bool := fun _ ds => decide (uptoBulkAll ds ≤ 1048576)
def OpenSpec.upto (s : _root_.Go.ChangeSpec) : _root_.Go.OpenSpec := { _root_.Go.OpenSpec.ofChange s with cond := some uptoSmall }

/-- 'laws.FnExactNodeMin', WHERE WHAT IT READS IS OF BULK AT MOST 1048576: true; the input reads as it did. -/
def fnExactNodeMinUptoRow : OpenClaim := { program := "ytkggdegpdmnjoaagreat", sum := "e34d893ae341d11d099ad3c5341f1396743ad6feed2ff57f6bcd604b73ba56e7", func := "loop.example/slackwater/laws.FnExactNodeMin", spec := "fnExactNodeMin", unfollowed := true, recurses := true, plainKeys := false, apart := false, narrowed := true }
def FnExactNodeMinUptoSaid : Prop := fnExactNodeMinUptoRow.holds Tryz.pinned (OpenSpec.upto fnExactNodeMinSpec)

/-- 'laws.FnExactNodeCame', WHERE WHAT IT READS IS OF BULK AT MOST 1048576: true; the input reads as it did. -/
def fnExactNodeCameUptoRow : OpenClaim := { program := "ytkggdegpdmnjoaagreat", sum := "e34d893ae341d11d099ad3c5341f1396743ad6feed2ff57f6bcd604b73ba56e7", func := "loop.example/slackwater/laws.FnExactNodeCame", spec := "fnExactNodeCame", unfollowed := true, recurses := true, plainKeys := false, apart := false, narrowed := true }
def FnExactNodeCameUptoSaid : Prop := fnExactNodeCameUptoRow.holds Tryz.pinned (OpenSpec.upto fnExactNodeCameSpec)

/-- 'laws.FnExactNodeKeep', WHERE WHAT IT READS IS OF BULK AT MOST 1048576: true; the input reads as it did. -/
def fnExactNodeKeepUptoRow : OpenClaim := { program := "ytkggdegpdmnjoaagreat", sum := "e34d893ae341d11d099ad3c5341f1396743ad6feed2ff57f6bcd604b73ba56e7", func := "loop.example/slackwater/laws.FnExactNodeKeep", spec := "fnExactNodeKeep", unfollowed := true, recurses := true, plainKeys := false, apart := false, narrowed := true }
def FnExactNodeKeepUptoSaid : Prop := fnExactNodeKeepUptoRow.holds Tryz.pinned (OpenSpec.upto fnExactNodeKeepSpec)

/-- 'laws.FnExactNodeTells', WHERE WHAT IT READS IS OF BULK AT MOST 1048576: true; the input reads as it did. -/
def fnExactNodeTellsUptoRow : OpenClaim := { program := "ytkggdegpdmnjoaagreat", sum := "e34d893ae341d11d099ad3c5341f1396743ad6feed2ff57f6bcd604b73ba56e7", func := "loop.example/slackwater/laws.FnExactNodeTells", spec := "fnExactNodeTells", unfollowed := true, recurses := true, plainKeys := false, apart := false, narrowed := true }
def FnExactNodeTellsUptoSaid : Prop := fnExactNodeTellsUptoRow.holds Tryz.pinned (OpenSpec.upto fnExactNodeTellsSpec)

/-- 'laws.FnExactHubOuts', WHERE WHAT IT READS IS OF BULK AT MOST 1048576: true; the input reads as it did. -/
def fnExactHubOutsUptoRow : OpenClaim := { program := "ytkggdegpdmnjoaagreat", sum := "e34d893ae341d11d099ad3c5341f1396743ad6feed2ff57f6bcd604b73ba56e7", func := "loop.example/slackwater/laws.FnExactHubOuts", spec := "fnExactHubOuts", unfollowed := true, recurses := true, plainKeys := false, apart := false, narrowed := true }
def FnExactHubOutsUptoSaid : Prop := fnExactHubOutsUptoRow.holds Tryz.pinned (OpenSpec.upto fnExactHubOutsSpec)

/-- 'laws.FnLaneCut', WHERE WHAT IT READS IS OF BULK AT MOST 1048576: true; the input reads as it did. -/
def fnLaneCutUptoRow : OpenClaim := { program := "ytkggdegpdmnjoaagreat", sum := "e34d893ae341d11d099ad3c5341f1396743ad6feed2ff57f6bcd604b73ba56e7", func := "loop.example/slackwater/laws.FnLaneCut", spec := "fnLaneCut", unfollowed := true, recurses := true, plainKeys := false, apart := false, narrowed := true }
def FnLaneCutUptoSaid : Prop := fnLaneCutUptoRow.holds Tryz.pinned (OpenSpec.upto fnLaneCutSpec)

/-- 'laws.FnLaneMore', WHERE WHAT IT READS IS OF BULK AT MOST 1048576: true; the input reads as it did. -/
def fnLaneMoreUptoRow : OpenClaim := { program := "ytkggdegpdmnjoaagreat", sum := "e34d893ae341d11d099ad3c5341f1396743ad6feed2ff57f6bcd604b73ba56e7", func := "loop.example/slackwater/laws.FnLaneMore", spec := "fnLaneMore", unfollowed := true, recurses := true, plainKeys := false, apart := false, narrowed := true }
def FnLaneMoreUptoSaid : Prop := fnLaneMoreUptoRow.holds Tryz.pinned (OpenSpec.upto fnLaneMoreSpec)

/-- 'laws.FnLaneNext', WHERE WHAT IT READS IS OF BULK AT MOST 1048576: true; the input reads as it did. -/
def fnLaneNextUptoRow : OpenClaim := { program := "ytkggdegpdmnjoaagreat", sum := "e34d893ae341d11d099ad3c5341f1396743ad6feed2ff57f6bcd604b73ba56e7", func := "loop.example/slackwater/laws.FnLaneNext", spec := "fnLaneNext", plainKeys := false, apart := false, narrowed := true }
def FnLaneNextUptoSaid : Prop := fnLaneNextUptoRow.holds Tryz.pinned (OpenSpec.upto fnLaneNextSpec)

end Rows
end Go.Proofs.YtkggdegpdmnjoaaGreat
