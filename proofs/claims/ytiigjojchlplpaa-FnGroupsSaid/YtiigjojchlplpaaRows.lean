/-
  No cell of these rows narrows 'for every input' (looked for: loops, veiled, ifaces, maps, wideKeys, modest, calm, conditions, laid).
  DERIVED. THE GIVEN ROWS OF THIS SEAT. 8 by the template 'for every input the law returns true; each argument reads behind the call as it read before'; 0 by the template 'total and deterministic' (their statements: YtiigjojchlplpaaTotals.lean).
  GIVEN WITH THE SEED: the statements are not yours to turn. If you find one false, say at which input.
  Laid BY PROGRAM, IN A SANDBOX (cutbox-rows.mjs): the forced cells as the released guide's own fill.sh prints them over the translation 2c68bfc68bae7922… (all of the seat's roots in one cut). By AI agents, Wed Nov 11 2026. No macro, syntax, notation, axiom, sorry.
-/
import Derived.Test.YtiigjojchlplpaaChecked
import GoSem.Claim
import GoSem.ClaimJoined
import GoSem.ClaimMapViews
import Derived.JoinedTies
import Derived.KernelRfl
namespace Go.Proofs.Ytiigjojchlplpaa
/- THE CELL 'sum', in the pinned program and in every row, IS THE sha256 OF THE DUMP (.gsa) THAT YtiigjojchlplpaaProg.lean LOADS. Nothing in Lean hashes anything: it is a label: what it is worth is what the hold of that sum in a sandbox is worth. -/
noncomputable def Try.pinned : Pinned := { name := "ytiigjojchlplpaa", sum := "2c68bfc68bae792284eeb9be429bc753f5ff79a5d1c34a4497afef9480e17494", checked := Try.checked }
namespace Rows
def none {H : Type} : Left H := { results := [], args := [] }

/-- 'laws.FnExactSerialOk': WHATEVER THE INPUT: true; the input reads as it did. -/
def fnExactSerialOkSpec : ChangeSpec := { name := "fnExactSerialOk", fn := fun _ => fun
  | [d] => { results := [.lit (.bool true)], args := [d] }
  | _ => none }
def fnExactSerialOkRow : OpenClaim := { program := "ytiigjojchlplpaa", sum := "2c68bfc68bae792284eeb9be429bc753f5ff79a5d1c34a4497afef9480e17494", func := "loop.example/g01397/laws.FnExactSerialOk", spec := "fnExactSerialOk", apart := false }
def FnExactSerialOkSaid : Prop := fnExactSerialOkRow.holds Try.pinned (OpenSpec.ofChange fnExactSerialOkSpec)

/-- ITS FALSE NEIGHBOUR: 'it returns false'. Refute it at one input. -/
def fnExactSerialOkWrong : ChangeSpec := { name := "fnExactSerialOk", fn := fun _ => fun
  | [d] => { results := [.lit (.bool false)], args := [d] }
  | _ => none }
def FnExactSerialOkWrongFalsely : Prop := fnExactSerialOkRow.holds Try.pinned (OpenSpec.ofChange fnExactSerialOkWrong)

/-- 'laws.FnExactEndOk': WHATEVER THE INPUT: true; the input reads as it did. -/
def fnExactEndOkSpec : ChangeSpec := { name := "fnExactEndOk", fn := fun _ => fun
  | [d] => { results := [.lit (.bool true)], args := [d] }
  | _ => none }
def fnExactEndOkRow : OpenClaim := { program := "ytiigjojchlplpaa", sum := "2c68bfc68bae792284eeb9be429bc753f5ff79a5d1c34a4497afef9480e17494", func := "loop.example/g01397/laws.FnExactEndOk", spec := "fnExactEndOk", apart := false }
def FnExactEndOkSaid : Prop := fnExactEndOkRow.holds Try.pinned (OpenSpec.ofChange fnExactEndOkSpec)

/-- ITS FALSE NEIGHBOUR: 'it returns false'. Refute it at one input. -/
def fnExactEndOkWrong : ChangeSpec := { name := "fnExactEndOk", fn := fun _ => fun
  | [d] => { results := [.lit (.bool false)], args := [d] }
  | _ => none }
def FnExactEndOkWrongFalsely : Prop := fnExactEndOkRow.holds Try.pinned (OpenSpec.ofChange fnExactEndOkWrong)

/-- 'laws.FnExactSerialMap': WHATEVER THE INPUT: true; the input reads as it did. -/
def fnExactSerialMapSpec : ChangeSpec := { name := "fnExactSerialMap", fn := fun _ => fun
  | [d] => { results := [.lit (.bool true)], args := [d] }
  | _ => none }
def fnExactSerialMapRow : OpenClaim := { program := "ytiigjojchlplpaa", sum := "2c68bfc68bae792284eeb9be429bc753f5ff79a5d1c34a4497afef9480e17494", func := "loop.example/g01397/laws.FnExactSerialMap", spec := "fnExactSerialMap", apart := false }
def FnExactSerialMapSaid : Prop := fnExactSerialMapRow.holds Try.pinned (OpenSpec.ofChange fnExactSerialMapSpec)

/-- ITS FALSE NEIGHBOUR: 'it returns false'. Refute it at one input. -/
def fnExactSerialMapWrong : ChangeSpec := { name := "fnExactSerialMap", fn := fun _ => fun
  | [d] => { results := [.lit (.bool false)], args := [d] }
  | _ => none }
def FnExactSerialMapWrongFalsely : Prop := fnExactSerialMapRow.holds Try.pinned (OpenSpec.ofChange fnExactSerialMapWrong)

/-- 'laws.FnExactCommitCost': WHATEVER THE INPUT: true; the input reads as it did. -/
def fnExactCommitCostSpec : ChangeSpec := { name := "fnExactCommitCost", fn := fun _ => fun
  | [d1, d2] => { results := [.lit (.bool true)], args := [d1, d2] }
  | _ => none }
def fnExactCommitCostRow : OpenClaim := { program := "ytiigjojchlplpaa", sum := "2c68bfc68bae792284eeb9be429bc753f5ff79a5d1c34a4497afef9480e17494", func := "loop.example/g01397/laws.FnExactCommitCost", spec := "fnExactCommitCost", apart := false }
def FnExactCommitCostSaid : Prop := fnExactCommitCostRow.holds Try.pinned (OpenSpec.ofChange fnExactCommitCostSpec)

/-- ITS FALSE NEIGHBOUR: 'it returns false'. Refute it at one input. -/
def fnExactCommitCostWrong : ChangeSpec := { name := "fnExactCommitCost", fn := fun _ => fun
  | [d1, d2] => { results := [.lit (.bool false)], args := [d1, d2] }
  | _ => none }
def FnExactCommitCostWrongFalsely : Prop := fnExactCommitCostRow.holds Try.pinned (OpenSpec.ofChange fnExactCommitCostWrong)

/-- 'laws.FnExactReadPairs': WHATEVER THE INPUT: true; the input reads as it did. -/
def fnExactReadPairsSpec : ChangeSpec := { name := "fnExactReadPairs", fn := fun _ => fun
  | [d] => { results := [.lit (.bool true)], args := [d] }
  | _ => none }
def fnExactReadPairsRow : OpenClaim := { program := "ytiigjojchlplpaa", sum := "2c68bfc68bae792284eeb9be429bc753f5ff79a5d1c34a4497afef9480e17494", func := "loop.example/g01397/laws.FnExactReadPairs", spec := "fnExactReadPairs", apart := false }
def FnExactReadPairsSaid : Prop := fnExactReadPairsRow.holds Try.pinned (OpenSpec.ofChange fnExactReadPairsSpec)

/-- ITS FALSE NEIGHBOUR: 'it returns false'. Refute it at one input. -/
def fnExactReadPairsWrong : ChangeSpec := { name := "fnExactReadPairs", fn := fun _ => fun
  | [d] => { results := [.lit (.bool false)], args := [d] }
  | _ => none }
def FnExactReadPairsWrongFalsely : Prop := fnExactReadPairsRow.holds Try.pinned (OpenSpec.ofChange fnExactReadPairsWrong)

/-- 'laws.FnExactHistOf': WHATEVER THE INPUT: true; the input reads as it did. -/
def fnExactHistOfSpec : ChangeSpec := { name := "fnExactHistOf", fn := fun _ => fun
  | [d1, d2] => { results := [.lit (.bool true)], args := [d1, d2] }
  | _ => none }
def fnExactHistOfRow : OpenClaim := { program := "ytiigjojchlplpaa", sum := "2c68bfc68bae792284eeb9be429bc753f5ff79a5d1c34a4497afef9480e17494", func := "loop.example/g01397/laws.FnExactHistOf", spec := "fnExactHistOf", apart := false }
def FnExactHistOfSaid : Prop := fnExactHistOfRow.holds Try.pinned (OpenSpec.ofChange fnExactHistOfSpec)

/-- ITS FALSE NEIGHBOUR: 'it returns false'. Refute it at one input. -/
def fnExactHistOfWrong : ChangeSpec := { name := "fnExactHistOf", fn := fun _ => fun
  | [d1, d2] => { results := [.lit (.bool false)], args := [d1, d2] }
  | _ => none }
def FnExactHistOfWrongFalsely : Prop := fnExactHistOfRow.holds Try.pinned (OpenSpec.ofChange fnExactHistOfWrong)

/-- 'laws.FnExactFollowMap': WHATEVER THE INPUT: true; the input reads as it did. -/
def fnExactFollowMapSpec : ChangeSpec := { name := "fnExactFollowMap", fn := fun _ => fun
  | [d] => { results := [.lit (.bool true)], args := [d] }
  | _ => none }
def fnExactFollowMapRow : OpenClaim := { program := "ytiigjojchlplpaa", sum := "2c68bfc68bae792284eeb9be429bc753f5ff79a5d1c34a4497afef9480e17494", func := "loop.example/g01397/laws.FnExactFollowMap", spec := "fnExactFollowMap", apart := false }
def FnExactFollowMapSaid : Prop := fnExactFollowMapRow.holds Try.pinned (OpenSpec.ofChange fnExactFollowMapSpec)

/-- ITS FALSE NEIGHBOUR: 'it returns false'. Refute it at one input. -/
def fnExactFollowMapWrong : ChangeSpec := { name := "fnExactFollowMap", fn := fun _ => fun
  | [d] => { results := [.lit (.bool false)], args := [d] }
  | _ => none }
def FnExactFollowMapWrongFalsely : Prop := fnExactFollowMapRow.holds Try.pinned (OpenSpec.ofChange fnExactFollowMapWrong)

/-- 'laws.FnGroups': WHATEVER THE INPUT: true; the input reads as it did. -/
def fnGroupsSpec : ChangeSpec := { name := "fnGroups", fn := fun _ => fun
  | [d] => { results := [.lit (.bool true)], args := [d] }
  | _ => none }
def fnGroupsRow : OpenClaim := { program := "ytiigjojchlplpaa", sum := "2c68bfc68bae792284eeb9be429bc753f5ff79a5d1c34a4497afef9480e17494", func := "loop.example/g01397/laws.FnGroups", spec := "fnGroups", apart := false }
def FnGroupsSaid : Prop := fnGroupsRow.holds Try.pinned (OpenSpec.ofChange fnGroupsSpec)

/-- ITS FALSE NEIGHBOUR: 'it returns false'. Refute it at one input. -/
def fnGroupsWrong : ChangeSpec := { name := "fnGroups", fn := fun _ => fun
  | [d] => { results := [.lit (.bool false)], args := [d] }
  | _ => none }
def FnGroupsWrongFalsely : Prop := fnGroupsRow.holds Try.pinned (OpenSpec.ofChange fnGroupsWrong)

/- THE SECOND FORM. 'bulk': how many values and letters a reading holds, each counted each time it is reached (what is shared counts as often as it is met; a slice's spare places count too). A statement '..UptoSaid' is the law's where the arguments, and the package variables that the reading takes, are together of bulk at most 1048576: NARROWER than '..Said'. Prove '..Said' where nothing that the law and all that it calls make is longer than what came in: it says more and counts as full. Else prove '..UptoSaid'. A law counts once. -/
mutual
def uptoBulk {H : Type} : DataW H → Nat
  | .lit (.string bytes) => bytes.length + 1
  | .lit _ => 1
  | .nil => 1
  | .ptr d => uptoBulk d + 1
  | .slice elems spare => uptoBulkAll elems + uptoBulkAll spare + 1
  | .agg parts => uptoBulkAll parts + 1
  | .iface _ d => uptoBulk d + 1
  | .map entries => uptoBulkEntries entries + 1
  | .held _ => 1
def uptoBulkAll {H : Type} : List (DataW H) → Nat
  | [] => 0
  | d :: r => uptoBulk d + uptoBulkAll r
def uptoBulkEntries {H : Type} : List (Lit × DataW H) → Nat
  | [] => 0
  | x :: r => uptoBulkEntry x + uptoBulkEntries r
def uptoBulkEntry {H : Type} : Lit × DataW H → Nat
  | (.string bytes, d) => bytes.length + uptoBulk d + 1
  | (_, d) => uptoBulk d + 1
 end
def uptoSmall : (H : Type) → List (DataW H) → Bool := fun _ ds => decide (uptoBulkAll ds ≤ 1048576)
def OpenSpec.upto (s : _root_.Go.ChangeSpec) : _root_.Go.OpenSpec := { _root_.Go.OpenSpec.ofChange s with cond := some uptoSmall }

/-- 'laws.FnExactSerialOk', WHERE WHAT IT READS IS OF BULK AT MOST 1048576: true; the input reads as it did. -/
def fnExactSerialOkUptoRow : OpenClaim := { program := "ytiigjojchlplpaa", sum := "2c68bfc68bae792284eeb9be429bc753f5ff79a5d1c34a4497afef9480e17494", func := "loop.example/g01397/laws.FnExactSerialOk", spec := "fnExactSerialOk", apart := false, narrowed := true }
def FnExactSerialOkUptoSaid : Prop := fnExactSerialOkUptoRow.holds Try.pinned (OpenSpec.upto fnExactSerialOkSpec)

/-- 'laws.FnExactEndOk', WHERE WHAT IT READS IS OF BULK AT MOST 1048576: true; the input reads as it did. -/
def fnExactEndOkUptoRow : OpenClaim := { program := "ytiigjojchlplpaa", sum := "2c68bfc68bae792284eeb9be429bc753f5ff79a5d1c34a4497afef9480e17494", func := "loop.example/g01397/laws.FnExactEndOk", spec := "fnExactEndOk", apart := false, narrowed := true }
def FnExactEndOkUptoSaid : Prop := fnExactEndOkUptoRow.holds Try.pinned (OpenSpec.upto fnExactEndOkSpec)

/-- 'laws.FnExactSerialMap', WHERE WHAT IT READS IS OF BULK AT MOST 1048576: true; the input reads as it did. -/
def fnExactSerialMapUptoRow : OpenClaim := { program := "ytiigjojchlplpaa", sum := "2c68bfc68bae792284eeb9be429bc753f5ff79a5d1c34a4497afef9480e17494", func := "loop.example/g01397/laws.FnExactSerialMap", spec := "fnExactSerialMap", apart := false, narrowed := true }
def FnExactSerialMapUptoSaid : Prop := fnExactSerialMapUptoRow.holds Try.pinned (OpenSpec.upto fnExactSerialMapSpec)

/-- 'laws.FnExactCommitCost', WHERE WHAT IT READS IS OF BULK AT MOST 1048576: true; the input reads as it did. -/
def fnExactCommitCostUptoRow : OpenClaim := { program := "ytiigjojchlplpaa", sum := "2c68bfc68bae792284eeb9be429bc753f5ff79a5d1c34a4497afef9480e17494", func := "loop.example/g01397/laws.FnExactCommitCost", spec := "fnExactCommitCost", apart := false, narrowed := true }
def FnExactCommitCostUptoSaid : Prop := fnExactCommitCostUptoRow.holds Try.pinned (OpenSpec.upto fnExactCommitCostSpec)

/-- 'laws.FnExactReadPairs', WHERE WHAT IT READS IS OF BULK AT MOST 1048576: true; the input reads as it did. -/
def fnExactReadPairsUptoRow : OpenClaim := { program := "ytiigjojchlplpaa", sum := "2c68bfc68bae792284eeb9be429bc753f5ff79a5d1c34a4497afef9480e17494", func := "loop.example/g01397/laws.FnExactReadPairs", spec := "fnExactReadPairs", apart := false, narrowed := true }
def FnExactReadPairsUptoSaid : Prop := fnExactReadPairsUptoRow.holds Try.pinned (OpenSpec.upto fnExactReadPairsSpec)

/-- 'laws.FnExactHistOf', WHERE WHAT IT READS IS OF BULK AT MOST 1048576: true; the input reads as it did. -/
def fnExactHistOfUptoRow : OpenClaim := { program := "ytiigjojchlplpaa", sum := "2c68bfc68bae792284eeb9be429bc753f5ff79a5d1c34a4497afef9480e17494", func := "loop.example/g01397/laws.FnExactHistOf", spec := "fnExactHistOf", apart := false, narrowed := true }
def FnExactHistOfUptoSaid : Prop := fnExactHistOfUptoRow.holds Try.pinned (OpenSpec.upto fnExactHistOfSpec)

/-- 'laws.FnExactFollowMap', WHERE WHAT IT READS IS OF BULK AT MOST 1048576: true; the input reads as it did. -/
def fnExactFollowMapUptoRow : OpenClaim := { program := "ytiigjojchlplpaa", sum := "2c68bfc68bae792284eeb9be429bc753f5ff79a5d1c34a4497afef9480e17494", func := "loop.example/g01397/laws.FnExactFollowMap", spec := "fnExactFollowMap", apart := false, narrowed := true }
def FnExactFollowMapUptoSaid : Prop := fnExactFollowMapUptoRow.holds Try.pinned (OpenSpec.upto fnExactFollowMapSpec)

/-- 'laws.FnGroups', WHERE WHAT IT READS IS OF BULK AT MOST 1048576: true; the input reads as it did. -/
def fnGroupsUptoRow : OpenClaim := { program := "ytiigjojchlplpaa", sum := "2c68bfc68bae792284eeb9be429bc753f5ff79a5d1c34a4497afef9480e17494", func := "loop.example/g01397/laws.FnGroups", spec := "fnGroups", apart := false, narrowed := true }
def FnGroupsUptoSaid : Prop := fnGroupsUptoRow.holds Try.pinned (OpenSpec.upto fnGroupsSpec)

end Rows
end Go.Proofs.Ytiigjojchlplpaa
