/-
  No cell of these rows narrows 'for every input' (looked for: loops, veiled, ifaces, maps, wideKeys, modest, calm, conditions, laid).
  DERIVED. THE GIVEN ROWS OF THIS SEAT. 12 by the template 'for every input the law returns true; each argument reads behind the call as it read before'; 0 by the template 'total and deterministic' (their statements: YtlbpalfjmjmimaaTotals.lean).
  GIVEN WITH THE SEED: the statements are not yours to turn. If you find one false, say at which input.
  Laid BY PROGRAM, IN A SANDBOX (cutbox-rows.mjs): the forced cells as the released guide's own fill.sh prints them over the translation b35e11bc723be55f… (all of the seat's roots in one cut). By AI agents, Wed Nov 11 2026. No macro, syntax, notation, axiom, sorry.
-/
import Derived.Test.YtlbpalfjmjmimaaChecked
import GoSem.Claim
import GoSem.ClaimJoined
import GoSem.ClaimMapViews
import Derived.JoinedTies
import Derived.KernelRfl
namespace Go.Proofs.Ytlbpalfjmjmimaa
/- THE CELL 'sum', in the pinned program and in every row, IS THE sha256 OF THE DUMP (.gsa) THAT YtlbpalfjmjmimaaProg.lean LOADS. Nothing in Lean hashes anything: it is a label: what it is worth is what the hold of that sum in a sandbox is worth. -/
noncomputable def Try.pinned : Pinned := { name := "ytlbpalfjmjmimaa", sum := "b35e11bc723be55f1fdfb97df5dc8ade00e92fe2678f316f303df7808c79ccf1", checked := Try.checked }
namespace Rows
def none {H : Type} : Left H := { results := [], args := [] }

/-- 'laws.FnExactPairsOk': WHATEVER THE INPUT: true; the input reads as it did. -/
def fnExactPairsOkSpec : ChangeSpec := { name := "fnExactPairsOk", fn := fun _ => fun
  | [d] => { results := [.lit (.bool true)], args := [d] }
  | _ => none }
def fnExactPairsOkRow : OpenClaim := { program := "ytlbpalfjmjmimaa", sum := "b35e11bc723be55f1fdfb97df5dc8ade00e92fe2678f316f303df7808c79ccf1", func := "loop.example/g01397/laws.FnExactPairsOk", spec := "fnExactPairsOk", apart := false }
def FnExactPairsOkSaid : Prop := fnExactPairsOkRow.holds Try.pinned (OpenSpec.ofChange fnExactPairsOkSpec)

/-- ITS FALSE NEIGHBOUR: 'it returns false'. Refute it at one input. -/
def fnExactPairsOkWrong : ChangeSpec := { name := "fnExactPairsOk", fn := fun _ => fun
  | [d] => { results := [.lit (.bool false)], args := [d] }
  | _ => none }
def FnExactPairsOkWrongFalsely : Prop := fnExactPairsOkRow.holds Try.pinned (OpenSpec.ofChange fnExactPairsOkWrong)

/-- 'laws.FnExactParcelBytes': WHATEVER THE INPUT: true; the input reads as it did. -/
def fnExactParcelBytesSpec : ChangeSpec := { name := "fnExactParcelBytes", fn := fun _ => fun
  | [d] => { results := [.lit (.bool true)], args := [d] }
  | _ => none }
def fnExactParcelBytesRow : OpenClaim := { program := "ytlbpalfjmjmimaa", sum := "b35e11bc723be55f1fdfb97df5dc8ade00e92fe2678f316f303df7808c79ccf1", func := "loop.example/g01397/laws.FnExactParcelBytes", spec := "fnExactParcelBytes", apart := false }
def FnExactParcelBytesSaid : Prop := fnExactParcelBytesRow.holds Try.pinned (OpenSpec.ofChange fnExactParcelBytesSpec)

/-- ITS FALSE NEIGHBOUR: 'it returns false'. Refute it at one input. -/
def fnExactParcelBytesWrong : ChangeSpec := { name := "fnExactParcelBytes", fn := fun _ => fun
  | [d] => { results := [.lit (.bool false)], args := [d] }
  | _ => none }
def FnExactParcelBytesWrongFalsely : Prop := fnExactParcelBytesRow.holds Try.pinned (OpenSpec.ofChange fnExactParcelBytesWrong)

/-- 'laws.FnExactSameFollower': WHATEVER THE INPUT: true; the input reads as it did. -/
def fnExactSameFollowerSpec : ChangeSpec := { name := "fnExactSameFollower", fn := fun _ => fun
  | [d1, d2] => { results := [.lit (.bool true)], args := [d1, d2] }
  | _ => none }
def fnExactSameFollowerRow : OpenClaim := { program := "ytlbpalfjmjmimaa", sum := "b35e11bc723be55f1fdfb97df5dc8ade00e92fe2678f316f303df7808c79ccf1", func := "loop.example/g01397/laws.FnExactSameFollower", spec := "fnExactSameFollower", apart := false }
def FnExactSameFollowerSaid : Prop := fnExactSameFollowerRow.holds Try.pinned (OpenSpec.ofChange fnExactSameFollowerSpec)

/-- ITS FALSE NEIGHBOUR: 'it returns false'. Refute it at one input. -/
def fnExactSameFollowerWrong : ChangeSpec := { name := "fnExactSameFollower", fn := fun _ => fun
  | [d1, d2] => { results := [.lit (.bool false)], args := [d1, d2] }
  | _ => none }
def FnExactSameFollowerWrongFalsely : Prop := fnExactSameFollowerRow.holds Try.pinned (OpenSpec.ofChange fnExactSameFollowerWrong)

/-- 'laws.FnExactCacheNew': WHATEVER THE INPUT: true; the input reads as it did. -/
def fnExactCacheNewSpec : ChangeSpec := { name := "fnExactCacheNew", fn := fun _ => fun
  | [d] => { results := [.lit (.bool true)], args := [d] }
  | _ => none }
def fnExactCacheNewRow : OpenClaim := { program := "ytlbpalfjmjmimaa", sum := "b35e11bc723be55f1fdfb97df5dc8ade00e92fe2678f316f303df7808c79ccf1", func := "loop.example/g01397/laws.FnExactCacheNew", spec := "fnExactCacheNew", apart := false }
def FnExactCacheNewSaid : Prop := fnExactCacheNewRow.holds Try.pinned (OpenSpec.ofChange fnExactCacheNewSpec)

/-- ITS FALSE NEIGHBOUR: 'it returns false'. Refute it at one input. -/
def fnExactCacheNewWrong : ChangeSpec := { name := "fnExactCacheNew", fn := fun _ => fun
  | [d] => { results := [.lit (.bool false)], args := [d] }
  | _ => none }
def FnExactCacheNewWrongFalsely : Prop := fnExactCacheNewRow.holds Try.pinned (OpenSpec.ofChange fnExactCacheNewWrong)

/-- 'laws.FnExactCacheOk': WHATEVER THE INPUT: true; the input reads as it did. -/
def fnExactCacheOkSpec : ChangeSpec := { name := "fnExactCacheOk", fn := fun _ => fun
  | [d] => { results := [.lit (.bool true)], args := [d] }
  | _ => none }
def fnExactCacheOkRow : OpenClaim := { program := "ytlbpalfjmjmimaa", sum := "b35e11bc723be55f1fdfb97df5dc8ade00e92fe2678f316f303df7808c79ccf1", func := "loop.example/g01397/laws.FnExactCacheOk", spec := "fnExactCacheOk", apart := false }
def FnExactCacheOkSaid : Prop := fnExactCacheOkRow.holds Try.pinned (OpenSpec.ofChange fnExactCacheOkSpec)

/-- ITS FALSE NEIGHBOUR: 'it returns false'. Refute it at one input. -/
def fnExactCacheOkWrong : ChangeSpec := { name := "fnExactCacheOk", fn := fun _ => fun
  | [d] => { results := [.lit (.bool false)], args := [d] }
  | _ => none }
def FnExactCacheOkWrongFalsely : Prop := fnExactCacheOkRow.holds Try.pinned (OpenSpec.ofChange fnExactCacheOkWrong)

/-- 'laws.FnExactRangeOf': WHATEVER THE INPUT: true; the input reads as it did. -/
def fnExactRangeOfSpec : ChangeSpec := { name := "fnExactRangeOf", fn := fun _ => fun
  | [d1, d2, d3] => { results := [.lit (.bool true)], args := [d1, d2, d3] }
  | _ => none }
def fnExactRangeOfRow : OpenClaim := { program := "ytlbpalfjmjmimaa", sum := "b35e11bc723be55f1fdfb97df5dc8ade00e92fe2678f316f303df7808c79ccf1", func := "loop.example/g01397/laws.FnExactRangeOf", spec := "fnExactRangeOf", apart := false }
def FnExactRangeOfSaid : Prop := fnExactRangeOfRow.holds Try.pinned (OpenSpec.ofChange fnExactRangeOfSpec)

/-- ITS FALSE NEIGHBOUR: 'it returns false'. Refute it at one input. -/
def fnExactRangeOfWrong : ChangeSpec := { name := "fnExactRangeOf", fn := fun _ => fun
  | [d1, d2, d3] => { results := [.lit (.bool false)], args := [d1, d2, d3] }
  | _ => none }
def FnExactRangeOfWrongFalsely : Prop := fnExactRangeOfRow.holds Try.pinned (OpenSpec.ofChange fnExactRangeOfWrong)

/-- 'laws.FnExactPage': WHATEVER THE INPUT: true; the input reads as it did. -/
def fnExactPageSpec : ChangeSpec := { name := "fnExactPage", fn := fun _ => fun
  | [d1, d2, d3] => { results := [.lit (.bool true)], args := [d1, d2, d3] }
  | _ => none }
def fnExactPageRow : OpenClaim := { program := "ytlbpalfjmjmimaa", sum := "b35e11bc723be55f1fdfb97df5dc8ade00e92fe2678f316f303df7808c79ccf1", func := "loop.example/g01397/laws.FnExactPage", spec := "fnExactPage", apart := false }
def FnExactPageSaid : Prop := fnExactPageRow.holds Try.pinned (OpenSpec.ofChange fnExactPageSpec)

/-- ITS FALSE NEIGHBOUR: 'it returns false'. Refute it at one input. -/
def fnExactPageWrong : ChangeSpec := { name := "fnExactPage", fn := fun _ => fun
  | [d1, d2, d3] => { results := [.lit (.bool false)], args := [d1, d2, d3] }
  | _ => none }
def FnExactPageWrongFalsely : Prop := fnExactPageRow.holds Try.pinned (OpenSpec.ofChange fnExactPageWrong)

/-- 'laws.FnPages': WHATEVER THE INPUT: true; the input reads as it did. -/
def fnPagesSpec : ChangeSpec := { name := "fnPages", fn := fun _ => fun
  | [d] => { results := [.lit (.bool true)], args := [d] }
  | _ => none }
def fnPagesRow : OpenClaim := { program := "ytlbpalfjmjmimaa", sum := "b35e11bc723be55f1fdfb97df5dc8ade00e92fe2678f316f303df7808c79ccf1", func := "loop.example/g01397/laws.FnPages", spec := "fnPages", apart := false }
def FnPagesSaid : Prop := fnPagesRow.holds Try.pinned (OpenSpec.ofChange fnPagesSpec)

/-- ITS FALSE NEIGHBOUR: 'it returns false'. Refute it at one input. -/
def fnPagesWrong : ChangeSpec := { name := "fnPages", fn := fun _ => fun
  | [d] => { results := [.lit (.bool false)], args := [d] }
  | _ => none }
def FnPagesWrongFalsely : Prop := fnPagesRow.holds Try.pinned (OpenSpec.ofChange fnPagesWrong)

/-- 'laws.FnExactPages': WHATEVER THE INPUT: true; the input reads as it did. -/
def fnExactPagesSpec : ChangeSpec := { name := "fnExactPages", fn := fun _ => fun
  | [d1, d2] => { results := [.lit (.bool true)], args := [d1, d2] }
  | _ => none }
def fnExactPagesRow : OpenClaim := { program := "ytlbpalfjmjmimaa", sum := "b35e11bc723be55f1fdfb97df5dc8ade00e92fe2678f316f303df7808c79ccf1", func := "loop.example/g01397/laws.FnExactPages", spec := "fnExactPages", apart := false }
def FnExactPagesSaid : Prop := fnExactPagesRow.holds Try.pinned (OpenSpec.ofChange fnExactPagesSpec)

/-- ITS FALSE NEIGHBOUR: 'it returns false'. Refute it at one input. -/
def fnExactPagesWrong : ChangeSpec := { name := "fnExactPages", fn := fun _ => fun
  | [d1, d2] => { results := [.lit (.bool false)], args := [d1, d2] }
  | _ => none }
def FnExactPagesWrongFalsely : Prop := fnExactPagesRow.holds Try.pinned (OpenSpec.ofChange fnExactPagesWrong)

/-- 'laws.FnExactDiff': WHATEVER THE INPUT: true; the input reads as it did. -/
def fnExactDiffSpec : ChangeSpec := { name := "fnExactDiff", fn := fun _ => fun
  | [d1, d2] => { results := [.lit (.bool true)], args := [d1, d2] }
  | _ => none }
def fnExactDiffRow : OpenClaim := { program := "ytlbpalfjmjmimaa", sum := "b35e11bc723be55f1fdfb97df5dc8ade00e92fe2678f316f303df7808c79ccf1", func := "loop.example/g01397/laws.FnExactDiff", spec := "fnExactDiff", apart := false }
def FnExactDiffSaid : Prop := fnExactDiffRow.holds Try.pinned (OpenSpec.ofChange fnExactDiffSpec)

/-- ITS FALSE NEIGHBOUR: 'it returns false'. Refute it at one input. -/
def fnExactDiffWrong : ChangeSpec := { name := "fnExactDiff", fn := fun _ => fun
  | [d1, d2] => { results := [.lit (.bool false)], args := [d1, d2] }
  | _ => none }
def FnExactDiffWrongFalsely : Prop := fnExactDiffRow.holds Try.pinned (OpenSpec.ofChange fnExactDiffWrong)

/-- 'laws.FnExactReceive': WHATEVER THE INPUT: true; the input reads as it did. -/
def fnExactReceiveSpec : ChangeSpec := { name := "fnExactReceive", fn := fun _ => fun
  | [d1, d2] => { results := [.lit (.bool true)], args := [d1, d2] }
  | _ => none }
def fnExactReceiveRow : OpenClaim := { program := "ytlbpalfjmjmimaa", sum := "b35e11bc723be55f1fdfb97df5dc8ade00e92fe2678f316f303df7808c79ccf1", func := "loop.example/g01397/laws.FnExactReceive", spec := "fnExactReceive", apart := false }
def FnExactReceiveSaid : Prop := fnExactReceiveRow.holds Try.pinned (OpenSpec.ofChange fnExactReceiveSpec)

/-- ITS FALSE NEIGHBOUR: 'it returns false'. Refute it at one input. -/
def fnExactReceiveWrong : ChangeSpec := { name := "fnExactReceive", fn := fun _ => fun
  | [d1, d2] => { results := [.lit (.bool false)], args := [d1, d2] }
  | _ => none }
def FnExactReceiveWrongFalsely : Prop := fnExactReceiveRow.holds Try.pinned (OpenSpec.ofChange fnExactReceiveWrong)

/-- 'laws.FnExactShowPairs': WHATEVER THE INPUT: true; the input reads as it did. -/
def fnExactShowPairsSpec : ChangeSpec := { name := "fnExactShowPairs", fn := fun _ => fun
  | [d] => { results := [.lit (.bool true)], args := [d] }
  | _ => none }
def fnExactShowPairsRow : OpenClaim := { program := "ytlbpalfjmjmimaa", sum := "b35e11bc723be55f1fdfb97df5dc8ade00e92fe2678f316f303df7808c79ccf1", func := "loop.example/g01397/laws.FnExactShowPairs", spec := "fnExactShowPairs", apart := false }
def FnExactShowPairsSaid : Prop := fnExactShowPairsRow.holds Try.pinned (OpenSpec.ofChange fnExactShowPairsSpec)

/-- ITS FALSE NEIGHBOUR: 'it returns false'. Refute it at one input. -/
def fnExactShowPairsWrong : ChangeSpec := { name := "fnExactShowPairs", fn := fun _ => fun
  | [d] => { results := [.lit (.bool false)], args := [d] }
  | _ => none }
def FnExactShowPairsWrongFalsely : Prop := fnExactShowPairsRow.holds Try.pinned (OpenSpec.ofChange fnExactShowPairsWrong)

/- THE SECOND FORM. 'bulk': how many values and letters a reading holds, each counted each time it is reached (what is shared counts as often as it is met; a slice's spare places count too). A statement '..UptoSaid' is the law's where the arguments, and the package variables that the reading takes, are together of bulk at most 1048576: NARROWER than '..Said'. Prove '..Said' where nothing that the law and all that it calls make is longer than what came in: it says more and counts as full. Else prove '..UptoSaid'. A law counts once. -/
mutual
def uptoBulk {H : Type} : DataW H → Nat
  | .lit (.string bytes) => bytes.length + 1
  | .lit _ => 1
  | .nil => 1
  | .ptr d => uptoBulk d + 1
  | .slice elems spare => uptoBulkAll elems + uptoBulkAll spare + 1
  | .agg parts => uptoBulkAll parts + 1
  | .iface _ d => uptoBulk d + 1
  | .map entries => uptoBulkEntries entries + 1
  | .held _ => 1
def uptoBulkAll {H : Type} : List (DataW H) → Nat
  | [] => 0
  | d :: r => uptoBulk d + uptoBulkAll r
def uptoBulkEntries {H : Type} : List (Lit × DataW H) → Nat
  | [] => 0
  | x :: r => uptoBulkEntry x + uptoBulkEntries r
def uptoBulkEntry {H : Type} : Lit × DataW H → Nat
  | (.string bytes, d) => bytes.length + uptoBulk d + 1
  | (_, d) => uptoBulk d + 1
 end
def uptoSmall : (H : Type) → List (DataW H) → Bool := fun _ ds => decide (uptoBulkAll ds ≤ 1048576)
def OpenSpec.upto (s : _root_.Go.ChangeSpec) : _root_.Go.OpenSpec := { _root_.Go.OpenSpec.ofChange s with cond := some uptoSmall }

/-- 'laws.FnExactPairsOk', WHERE WHAT IT READS IS OF BULK AT MOST 1048576: true; the input reads as it did. -/
def fnExactPairsOkUptoRow : OpenClaim := { program := "ytlbpalfjmjmimaa", sum := "b35e11bc723be55f1fdfb97df5dc8ade00e92fe2678f316f303df7808c79ccf1", func := "loop.example/g01397/laws.FnExactPairsOk", spec := "fnExactPairsOk", apart := false, narrowed := true }
def FnExactPairsOkUptoSaid : Prop := fnExactPairsOkUptoRow.holds Try.pinned (OpenSpec.upto fnExactPairsOkSpec)

/-- 'laws.FnExactParcelBytes', WHERE WHAT IT READS IS OF BULK AT MOST 1048576: true; the input reads as it did. -/
def fnExactParcelBytesUptoRow : OpenClaim := { program := "ytlbpalfjmjmimaa", sum := "b35e11bc723be55f1fdfb97df5dc8ade00e92fe2678f316f303df7808c79ccf1", func := "loop.example/g01397/laws.FnExactParcelBytes", spec := "fnExactParcelBytes", apart := false, narrowed := true }
def FnExactParcelBytesUptoSaid : Prop := fnExactParcelBytesUptoRow.holds Try.pinned (OpenSpec.upto fnExactParcelBytesSpec)

/-- 'laws.FnExactSameFollower', WHERE WHAT IT READS IS OF BULK AT MOST 1048576: true; the input reads as it did. -/
def fnExactSameFollowerUptoRow : OpenClaim := { program := "ytlbpalfjmjmimaa", sum := "b35e11bc723be55f1fdfb97df5dc8ade00e92fe2678f316f303df7808c79ccf1", func := "loop.example/g01397/laws.FnExactSameFollower", spec := "fnExactSameFollower", apart := false, narrowed := true }
def FnExactSameFollowerUptoSaid : Prop := fnExactSameFollowerUptoRow.holds Try.pinned (OpenSpec.upto fnExactSameFollowerSpec)

/-- 'laws.FnExactCacheNew', WHERE WHAT IT READS IS OF BULK AT MOST 1048576: true; the input reads as it did. -/
def fnExactCacheNewUptoRow : OpenClaim := { program := "ytlbpalfjmjmimaa", sum := "b35e11bc723be55f1fdfb97df5dc8ade00e92fe2678f316f303df7808c79ccf1", func := "loop.example/g01397/laws.FnExactCacheNew", spec := "fnExactCacheNew", apart := false, narrowed := true }
def FnExactCacheNewUptoSaid : Prop := fnExactCacheNewUptoRow.holds Try.pinned (OpenSpec.upto fnExactCacheNewSpec)

/-- 'laws.FnExactCacheOk', WHERE WHAT IT READS IS OF BULK AT MOST 1048576: true; the input reads as it did. -/
def fnExactCacheOkUptoRow : OpenClaim := { program := "ytlbpalfjmjmimaa", sum := "b35e11bc723be55f1fdfb97df5dc8ade00e92fe2678f316f303df7808c79ccf1", func := "loop.example/g01397/laws.FnExactCacheOk", spec := "fnExactCacheOk", apart := false, narrowed := true }
def FnExactCacheOkUptoSaid : Prop := fnExactCacheOkUptoRow.holds Try.pinned (OpenSpec.upto fnExactCacheOkSpec)

/-- 'laws.FnExactRangeOf', WHERE WHAT IT READS IS OF BULK AT MOST 1048576: true; the input reads as it did. -/
def fnExactRangeOfUptoRow : OpenClaim := { program := "ytlbpalfjmjmimaa", sum := "b35e11bc723be55f1fdfb97df5dc8ade00e92fe2678f316f303df7808c79ccf1", func := "loop.example/g01397/laws.FnExactRangeOf", spec := "fnExactRangeOf", apart := false, narrowed := true }
def FnExactRangeOfUptoSaid : Prop := fnExactRangeOfUptoRow.holds Try.pinned (OpenSpec.upto fnExactRangeOfSpec)

/-- 'laws.FnExactPage', WHERE WHAT IT READS IS OF BULK AT MOST 1048576: true; the input reads as it did. -/
def fnExactPageUptoRow : OpenClaim := { program := "ytlbpalfjmjmimaa", sum := "b35e11bc723be55f1fdfb97df5dc8ade00e92fe2678f316f303df7808c79ccf1", func := "loop.example/g01397/laws.FnExactPage", spec := "fnExactPage", apart := false, narrowed := true }
def FnExactPageUptoSaid : Prop := fnExactPageUptoRow.holds Try.pinned (OpenSpec.upto fnExactPageSpec)

/-- 'laws.FnPages', WHERE WHAT IT READS IS OF BULK AT MOST 1048576: true; the input reads as it did. -/
def fnPagesUptoRow : OpenClaim := { program := "ytlbpalfjmjmimaa", sum := "b35e11bc723be55f1fdfb97df5dc8ade00e92fe2678f316f303df7808c79ccf1", func := "loop.example/g01397/laws.FnPages", spec := "fnPages", apart := false, narrowed := true }
def FnPagesUptoSaid : Prop := fnPagesUptoRow.holds Try.pinned (OpenSpec.upto fnPagesSpec)

/-- 'laws.FnExactPages', WHERE WHAT IT READS IS OF BULK AT MOST 1048576: true; the input reads as it did. -/
def fnExactPagesUptoRow : OpenClaim := { program := "ytlbpalfjmjmimaa", sum := "b35e11bc723be55f1fdfb97df5dc8ade00e92fe2678f316f303df7808c79ccf1", func := "loop.example/g01397/laws.FnExactPages", spec := "fnExactPages", apart := false, narrowed := true }
def FnExactPagesUptoSaid : Prop := fnExactPagesUptoRow.holds Try.pinned (OpenSpec.upto fnExactPagesSpec)

/-- 'laws.FnExactDiff', WHERE WHAT IT READS IS OF BULK AT MOST 1048576: true; the input reads as it did. -/
def fnExactDiffUptoRow : OpenClaim := { program := "ytlbpalfjmjmimaa", sum := "b35e11bc723be55f1fdfb97df5dc8ade00e92fe2678f316f303df7808c79ccf1", func := "loop.example/g01397/laws.FnExactDiff", spec := "fnExactDiff", apart := false, narrowed := true }
def FnExactDiffUptoSaid : Prop := fnExactDiffUptoRow.holds Try.pinned (OpenSpec.upto fnExactDiffSpec)

/-- 'laws.FnExactReceive', WHERE WHAT IT READS IS OF BULK AT MOST 1048576: true; the input reads as it did. -/
def fnExactReceiveUptoRow : OpenClaim := { program := "ytlbpalfjmjmimaa", sum := "b35e11bc723be55f1fdfb97df5dc8ade00e92fe2678f316f303df7808c79ccf1", func := "loop.example/g01397/laws.FnExactReceive", spec := "fnExactReceive", apart := false, narrowed := true }
def FnExactReceiveUptoSaid : Prop := fnExactReceiveUptoRow.holds Try.pinned (OpenSpec.upto fnExactReceiveSpec)

/-- 'laws.FnExactShowPairs', WHERE WHAT IT READS IS OF BULK AT MOST 1048576: true; the input reads as it did. -/
def fnExactShowPairsUptoRow : OpenClaim := { program := "ytlbpalfjmjmimaa", sum := "b35e11bc723be55f1fdfb97df5dc8ade00e92fe2678f316f303df7808c79ccf1", func := "loop.example/g01397/laws.FnExactShowPairs", spec := "fnExactShowPairs", apart := false, narrowed := true }
def FnExactShowPairsUptoSaid : Prop := fnExactShowPairsUptoRow.holds Try.pinned (OpenSpec.upto fnExactShowPairsSpec)

end Rows
end Go.Proofs.Ytlbpalfjmjmimaa
