/-
  No cell of these rows narrows 'for every input' (looked for: loops, veiled, ifaces, maps, wideKeys, modest, calm, conditions, laid).
  DERIVED. THE GIVEN ROWS OF THIS SEAT. 10 by the template 'for every input the law returns true; each argument reads behind the call as it read before'; 0 by the template 'total and deterministic' (their statements: YthchonkpkgogjaaTotals.lean).
  GIVEN WITH THE SEED: the statements are not yours to turn. If you find one false, say at which input.
  Laid BY PROGRAM, IN A SANDBOX (cutbox-rows.mjs): the forced cells as the released guide's own fill.sh prints them over the translation 2b139c626f41a699… (all of the seat's roots in one cut). By AI agents, Wed Nov 11 2026. No macro, syntax, notation, axiom, sorry.
-/
import Derived.Test.YthchonkpkgogjaaChecked
import GoSem.Claim
import GoSem.ClaimJoined
import GoSem.ClaimMapViews
import Derived.JoinedTies
import Derived.KernelRfl
namespace Go.Proofs.Ythchonkpkgogjaa
/- THE CELL 'sum', in the pinned program and in every row, IS THE sha256 OF THE DUMP (.gsa) THAT YthchonkpkgogjaaProg.lean LOADS. Nothing in Lean hashes anything: it is a label: what it is worth is what the hold of that sum in a sandbox is worth. -/
noncomputable def Try.pinned : Pinned := { name := "ythchonkpkgogjaa", sum := "2b139c626f41a69951d0e68f233421537f436838f73604025682a93504f4cc24", checked := Try.checked }
namespace Rows
def none {H : Type} : Left H := { results := [], args := [] }

/-- 'laws.FnExactLatestVersion': WHATEVER THE INPUT: true; the input reads as it did. -/
def fnExactLatestVersionSpec : ChangeSpec := { name := "fnExactLatestVersion", fn := fun _ => fun
  | [d] => { results := [.lit (.bool true)], args := [d] }
  | _ => none }
def fnExactLatestVersionRow : OpenClaim := { program := "ythchonkpkgogjaa", sum := "2b139c626f41a69951d0e68f233421537f436838f73604025682a93504f4cc24", func := "loop.example/g01922/laws.FnExactLatestVersion", spec := "fnExactLatestVersion", apart := false }
def FnExactLatestVersionSaid : Prop := fnExactLatestVersionRow.holds Try.pinned (OpenSpec.ofChange fnExactLatestVersionSpec)

/-- ITS FALSE NEIGHBOUR: 'it returns false'. Refute it at one input. -/
def fnExactLatestVersionWrong : ChangeSpec := { name := "fnExactLatestVersion", fn := fun _ => fun
  | [d] => { results := [.lit (.bool false)], args := [d] }
  | _ => none }
def FnExactLatestVersionWrongFalsely : Prop := fnExactLatestVersionRow.holds Try.pinned (OpenSpec.ofChange fnExactLatestVersionWrong)

/-- 'laws.FnExactNewHistory': WHATEVER THE INPUT: true; the input reads as it did. -/
def fnExactNewHistorySpec : ChangeSpec := { name := "fnExactNewHistory", fn := fun _ => fun
  | [d1, d2] => { results := [.lit (.bool true)], args := [d1, d2] }
  | _ => none }
def fnExactNewHistoryRow : OpenClaim := { program := "ythchonkpkgogjaa", sum := "2b139c626f41a69951d0e68f233421537f436838f73604025682a93504f4cc24", func := "loop.example/g01922/laws.FnExactNewHistory", spec := "fnExactNewHistory", apart := false }
def FnExactNewHistorySaid : Prop := fnExactNewHistoryRow.holds Try.pinned (OpenSpec.ofChange fnExactNewHistorySpec)

/-- ITS FALSE NEIGHBOUR: 'it returns false'. Refute it at one input. -/
def fnExactNewHistoryWrong : ChangeSpec := { name := "fnExactNewHistory", fn := fun _ => fun
  | [d1, d2] => { results := [.lit (.bool false)], args := [d1, d2] }
  | _ => none }
def FnExactNewHistoryWrongFalsely : Prop := fnExactNewHistoryRow.holds Try.pinned (OpenSpec.ofChange fnExactNewHistoryWrong)

/-- 'laws.FnExactAcceptsAt': WHATEVER THE INPUT: true; the input reads as it did. -/
def fnExactAcceptsAtSpec : ChangeSpec := { name := "fnExactAcceptsAt", fn := fun _ => fun
  | [d1, d2, d3, d4] => { results := [.lit (.bool true)], args := [d1, d2, d3, d4] }
  | _ => none }
def fnExactAcceptsAtRow : OpenClaim := { program := "ythchonkpkgogjaa", sum := "2b139c626f41a69951d0e68f233421537f436838f73604025682a93504f4cc24", func := "loop.example/g01922/laws.FnExactAcceptsAt", spec := "fnExactAcceptsAt", apart := false }
def FnExactAcceptsAtSaid : Prop := fnExactAcceptsAtRow.holds Try.pinned (OpenSpec.ofChange fnExactAcceptsAtSpec)

/-- ITS FALSE NEIGHBOUR: 'it returns false'. Refute it at one input. -/
def fnExactAcceptsAtWrong : ChangeSpec := { name := "fnExactAcceptsAt", fn := fun _ => fun
  | [d1, d2, d3, d4] => { results := [.lit (.bool false)], args := [d1, d2, d3, d4] }
  | _ => none }
def FnExactAcceptsAtWrongFalsely : Prop := fnExactAcceptsAtRow.holds Try.pinned (OpenSpec.ofChange fnExactAcceptsAtWrong)

/-- 'laws.FnExactGraphAt': WHATEVER THE INPUT: true; the input reads as it did. -/
def fnExactGraphAtSpec : ChangeSpec := { name := "fnExactGraphAt", fn := fun _ => fun
  | [d1, d2] => { results := [.lit (.bool true)], args := [d1, d2] }
  | _ => none }
def fnExactGraphAtRow : OpenClaim := { program := "ythchonkpkgogjaa", sum := "2b139c626f41a69951d0e68f233421537f436838f73604025682a93504f4cc24", func := "loop.example/g01922/laws.FnExactGraphAt", spec := "fnExactGraphAt", apart := false }
def FnExactGraphAtSaid : Prop := fnExactGraphAtRow.holds Try.pinned (OpenSpec.ofChange fnExactGraphAtSpec)

/-- ITS FALSE NEIGHBOUR: 'it returns false'. Refute it at one input. -/
def fnExactGraphAtWrong : ChangeSpec := { name := "fnExactGraphAt", fn := fun _ => fun
  | [d1, d2] => { results := [.lit (.bool false)], args := [d1, d2] }
  | _ => none }
def FnExactGraphAtWrongFalsely : Prop := fnExactGraphAtRow.holds Try.pinned (OpenSpec.ofChange fnExactGraphAtWrong)

/-- 'laws.FnExactCompactHistory': WHATEVER THE INPUT: true; the input reads as it did. -/
def fnExactCompactHistorySpec : ChangeSpec := { name := "fnExactCompactHistory", fn := fun _ => fun
  | [d1, d2] => { results := [.lit (.bool true)], args := [d1, d2] }
  | _ => none }
def fnExactCompactHistoryRow : OpenClaim := { program := "ythchonkpkgogjaa", sum := "2b139c626f41a69951d0e68f233421537f436838f73604025682a93504f4cc24", func := "loop.example/g01922/laws.FnExactCompactHistory", spec := "fnExactCompactHistory", apart := false }
def FnExactCompactHistorySaid : Prop := fnExactCompactHistoryRow.holds Try.pinned (OpenSpec.ofChange fnExactCompactHistorySpec)

/-- ITS FALSE NEIGHBOUR: 'it returns false'. Refute it at one input. -/
def fnExactCompactHistoryWrong : ChangeSpec := { name := "fnExactCompactHistory", fn := fun _ => fun
  | [d1, d2] => { results := [.lit (.bool false)], args := [d1, d2] }
  | _ => none }
def FnExactCompactHistoryWrongFalsely : Prop := fnExactCompactHistoryRow.holds Try.pinned (OpenSpec.ofChange fnExactCompactHistoryWrong)

/-- 'laws.FnExactMergePairs': WHATEVER THE INPUT: true; the input reads as it did. -/
def fnExactMergePairsSpec : ChangeSpec := { name := "fnExactMergePairs", fn := fun _ => fun
  | [d1, d2] => { results := [.lit (.bool true)], args := [d1, d2] }
  | _ => none }
def fnExactMergePairsRow : OpenClaim := { program := "ythchonkpkgogjaa", sum := "2b139c626f41a69951d0e68f233421537f436838f73604025682a93504f4cc24", func := "loop.example/g01922/laws.FnExactMergePairs", spec := "fnExactMergePairs", unfollowed := true, recurses := true, apart := false }
def FnExactMergePairsSaid : Prop := fnExactMergePairsRow.holds Try.pinned (OpenSpec.ofChange fnExactMergePairsSpec)

/-- ITS FALSE NEIGHBOUR: 'it returns false'. Refute it at one input. -/
def fnExactMergePairsWrong : ChangeSpec := { name := "fnExactMergePairs", fn := fun _ => fun
  | [d1, d2] => { results := [.lit (.bool false)], args := [d1, d2] }
  | _ => none }
def FnExactMergePairsWrongFalsely : Prop := fnExactMergePairsRow.holds Try.pinned (OpenSpec.ofChange fnExactMergePairsWrong)

/-- 'laws.FnExactSubtractPairs': WHATEVER THE INPUT: true; the input reads as it did. -/
def fnExactSubtractPairsSpec : ChangeSpec := { name := "fnExactSubtractPairs", fn := fun _ => fun
  | [d1, d2] => { results := [.lit (.bool true)], args := [d1, d2] }
  | _ => none }
def fnExactSubtractPairsRow : OpenClaim := { program := "ythchonkpkgogjaa", sum := "2b139c626f41a69951d0e68f233421537f436838f73604025682a93504f4cc24", func := "loop.example/g01922/laws.FnExactSubtractPairs", spec := "fnExactSubtractPairs", unfollowed := true, recurses := true, apart := false }
def FnExactSubtractPairsSaid : Prop := fnExactSubtractPairsRow.holds Try.pinned (OpenSpec.ofChange fnExactSubtractPairsSpec)

/-- ITS FALSE NEIGHBOUR: 'it returns false'. Refute it at one input. -/
def fnExactSubtractPairsWrong : ChangeSpec := { name := "fnExactSubtractPairs", fn := fun _ => fun
  | [d1, d2] => { results := [.lit (.bool false)], args := [d1, d2] }
  | _ => none }
def FnExactSubtractPairsWrongFalsely : Prop := fnExactSubtractPairsRow.holds Try.pinned (OpenSpec.ofChange fnExactSubtractPairsWrong)

/-- 'laws.FnExactProductSteps': WHATEVER THE INPUT: true; the input reads as it did. -/
def fnExactProductStepsSpec : ChangeSpec := { name := "fnExactProductSteps", fn := fun _ => fun
  | [d1, d2, d3, d4] => { results := [.lit (.bool true)], args := [d1, d2, d3, d4] }
  | _ => none }
def fnExactProductStepsRow : OpenClaim := { program := "ythchonkpkgogjaa", sum := "2b139c626f41a69951d0e68f233421537f436838f73604025682a93504f4cc24", func := "loop.example/g01922/laws.FnExactProductSteps", spec := "fnExactProductSteps", apart := false }
def FnExactProductStepsSaid : Prop := fnExactProductStepsRow.holds Try.pinned (OpenSpec.ofChange fnExactProductStepsSpec)

/-- ITS FALSE NEIGHBOUR: 'it returns false'. Refute it at one input. -/
def fnExactProductStepsWrong : ChangeSpec := { name := "fnExactProductSteps", fn := fun _ => fun
  | [d1, d2, d3, d4] => { results := [.lit (.bool false)], args := [d1, d2, d3, d4] }
  | _ => none }
def FnExactProductStepsWrongFalsely : Prop := fnExactProductStepsRow.holds Try.pinned (OpenSpec.ofChange fnExactProductStepsWrong)

/-- 'laws.FnExactAppendBatch': WHATEVER THE INPUT: true; the input reads as it did. -/
def fnExactAppendBatchSpec : ChangeSpec := { name := "fnExactAppendBatch", fn := fun _ => fun
  | [d1, d2] => { results := [.lit (.bool true)], args := [d1, d2] }
  | _ => none }
def fnExactAppendBatchRow : OpenClaim := { program := "ythchonkpkgogjaa", sum := "2b139c626f41a69951d0e68f233421537f436838f73604025682a93504f4cc24", func := "loop.example/g01922/laws.FnExactAppendBatch", spec := "fnExactAppendBatch", inPlace := ["slices.overlaps[loop.example/g01922/impl.Edge]"], unfollowed := true, recurses := true, apart := false }
def FnExactAppendBatchSaid : Prop := fnExactAppendBatchRow.holds Try.pinned (OpenSpec.ofChange fnExactAppendBatchSpec)

/-- ITS FALSE NEIGHBOUR: 'it returns false'. Refute it at one input. -/
def fnExactAppendBatchWrong : ChangeSpec := { name := "fnExactAppendBatch", fn := fun _ => fun
  | [d1, d2] => { results := [.lit (.bool false)], args := [d1, d2] }
  | _ => none }
def FnExactAppendBatchWrongFalsely : Prop := fnExactAppendBatchRow.holds Try.pinned (OpenSpec.ofChange fnExactAppendBatchWrong)

/-- 'laws.FnExactWordsUpTo': WHATEVER THE INPUT: true; the input reads as it did. -/
def fnExactWordsUpToSpec : ChangeSpec := { name := "fnExactWordsUpTo", fn := fun _ => fun
  | [d1, d2] => { results := [.lit (.bool true)], args := [d1, d2] }
  | _ => none }
def fnExactWordsUpToRow : OpenClaim := { program := "ythchonkpkgogjaa", sum := "2b139c626f41a69951d0e68f233421537f436838f73604025682a93504f4cc24", func := "loop.example/g01922/laws.FnExactWordsUpTo", spec := "fnExactWordsUpTo", recurses := true, apart := false }
def FnExactWordsUpToSaid : Prop := fnExactWordsUpToRow.holds Try.pinned (OpenSpec.ofChange fnExactWordsUpToSpec)

/-- ITS FALSE NEIGHBOUR: 'it returns false'. Refute it at one input. -/
def fnExactWordsUpToWrong : ChangeSpec := { name := "fnExactWordsUpTo", fn := fun _ => fun
  | [d1, d2] => { results := [.lit (.bool false)], args := [d1, d2] }
  | _ => none }
def FnExactWordsUpToWrongFalsely : Prop := fnExactWordsUpToRow.holds Try.pinned (OpenSpec.ofChange fnExactWordsUpToWrong)

/- THE SECOND FORM. 'bulk': how many values and letters a reading holds, each counted each time it is reached (what is shared counts as often as it is met; a slice's spare places count too). A statement '..UptoSaid' is the law's where the arguments, and the package variables that the reading takes, are together of bulk at most 1048576: NARROWER than '..Said'. Prove '..Said' where nothing that the law and all that it calls make is longer than what came in: it says more and counts as full. Else prove '..UptoSaid'. A law counts once. -/
mutual
def uptoBulk {H : Type} : DataW H → Nat
  | .lit (.string bytes) => bytes.length + 1
  | .lit _ => 1
  | .nil => 1
  | .ptr d => uptoBulk d + 1
  | .slice elems spare => uptoBulkAll elems + uptoBulkAll spare + 1
  | .agg parts => uptoBulkAll parts + 1
  | .iface _ d => uptoBulk d + 1
  | .map entries => uptoBulkEntries entries + 1
  | .held _ => 1
def uptoBulkAll {H : Type} : List (DataW H) → Nat
  | [] => 0
  | d :: r => uptoBulk d + uptoBulkAll r
def uptoBulkEntries {H : Type} : List (Lit × DataW H) → Nat
  | [] => 0
  | x :: r => uptoBulkEntry x + uptoBulkEntries r
def uptoBulkEntry {H : Type} : Lit × DataW H → Nat
  | (.string bytes, d) => bytes.length + uptoBulk d + 1
  | (_, d) => uptoBulk d + 1
 end
def uptoSmall : (H : Type) → List (DataW H) → Bool := fun _ ds => decide (uptoBulkAll ds ≤ 1048576)
def OpenSpec.upto (s : _root_.Go.ChangeSpec) : _root_.Go.OpenSpec := { _root_.Go.OpenSpec.ofChange s with cond := some uptoSmall }

/-- 'laws.FnExactLatestVersion', WHERE WHAT IT READS IS OF BULK AT MOST 1048576: true; the input reads as it did. -/
def fnExactLatestVersionUptoRow : OpenClaim := { program := "ythchonkpkgogjaa", sum := "2b139c626f41a69951d0e68f233421537f436838f73604025682a93504f4cc24", func := "loop.example/g01922/laws.FnExactLatestVersion", spec := "fnExactLatestVersion", apart := false, narrowed := true }
def FnExactLatestVersionUptoSaid : Prop := fnExactLatestVersionUptoRow.holds Try.pinned (OpenSpec.upto fnExactLatestVersionSpec)

/-- 'laws.FnExactNewHistory', WHERE WHAT IT READS IS OF BULK AT MOST 1048576: true; the input reads as it did. -/
def fnExactNewHistoryUptoRow : OpenClaim := { program := "ythchonkpkgogjaa", sum := "2b139c626f41a69951d0e68f233421537f436838f73604025682a93504f4cc24", func := "loop.example/g01922/laws.FnExactNewHistory", spec := "fnExactNewHistory", apart := false, narrowed := true }
def FnExactNewHistoryUptoSaid : Prop := fnExactNewHistoryUptoRow.holds Try.pinned (OpenSpec.upto fnExactNewHistorySpec)

/-- 'laws.FnExactAcceptsAt', WHERE WHAT IT READS IS OF BULK AT MOST 1048576: true; the input reads as it did. -/
def fnExactAcceptsAtUptoRow : OpenClaim := { program := "ythchonkpkgogjaa", sum := "2b139c626f41a69951d0e68f233421537f436838f73604025682a93504f4cc24", func := "loop.example/g01922/laws.FnExactAcceptsAt", spec := "fnExactAcceptsAt", apart := false, narrowed := true }
def FnExactAcceptsAtUptoSaid : Prop := fnExactAcceptsAtUptoRow.holds Try.pinned (OpenSpec.upto fnExactAcceptsAtSpec)

/-- 'laws.FnExactGraphAt', WHERE WHAT IT READS IS OF BULK AT MOST 1048576: true; the input reads as it did. -/
def fnExactGraphAtUptoRow : OpenClaim := { program := "ythchonkpkgogjaa", sum := "2b139c626f41a69951d0e68f233421537f436838f73604025682a93504f4cc24", func := "loop.example/g01922/laws.FnExactGraphAt", spec := "fnExactGraphAt", apart := false, narrowed := true }
def FnExactGraphAtUptoSaid : Prop := fnExactGraphAtUptoRow.holds Try.pinned (OpenSpec.upto fnExactGraphAtSpec)

/-- 'laws.FnExactCompactHistory', WHERE WHAT IT READS IS OF BULK AT MOST 1048576: true; the input reads as it did. -/
def fnExactCompactHistoryUptoRow : OpenClaim := { program := "ythchonkpkgogjaa", sum := "2b139c626f41a69951d0e68f233421537f436838f73604025682a93504f4cc24", func := "loop.example/g01922/laws.FnExactCompactHistory", spec := "fnExactCompactHistory", apart := false, narrowed := true }
def FnExactCompactHistoryUptoSaid : Prop := fnExactCompactHistoryUptoRow.holds Try.pinned (OpenSpec.upto fnExactCompactHistorySpec)

/-- 'laws.FnExactMergePairs', WHERE WHAT IT READS IS OF BULK AT MOST 1048576: true; the input reads as it did. -/
def fnExactMergePairsUptoRow : OpenClaim := { program := "ythchonkpkgogjaa", sum := "2b139c626f41a69951d0e68f233421537f436838f73604025682a93504f4cc24", func := "loop.example/g01922/laws.FnExactMergePairs", spec := "fnExactMergePairs", unfollowed := true, recurses := true, apart := false, narrowed := true }
def FnExactMergePairsUptoSaid : Prop := fnExactMergePairsUptoRow.holds Try.pinned (OpenSpec.upto fnExactMergePairsSpec)

/-- 'laws.FnExactSubtractPairs', WHERE WHAT IT READS IS OF BULK AT MOST 1048576: true; the input reads as it did. -/
def fnExactSubtractPairsUptoRow : OpenClaim := { program := "ythchonkpkgogjaa", sum := "2b139c626f41a69951d0e68f233421537f436838f73604025682a93504f4cc24", func := "loop.example/g01922/laws.FnExactSubtractPairs", spec := "fnExactSubtractPairs", unfollowed := true, recurses := true, apart := false, narrowed := true }
def FnExactSubtractPairsUptoSaid : Prop := fnExactSubtractPairsUptoRow.holds Try.pinned (OpenSpec.upto fnExactSubtractPairsSpec)

/-- 'laws.FnExactProductSteps', WHERE WHAT IT READS IS OF BULK AT MOST 1048576: true; the input reads as it did. -/
def fnExactProductStepsUptoRow : OpenClaim := { program := "ythchonkpkgogjaa", sum := "2b139c626f41a69951d0e68f233421537f436838f73604025682a93504f4cc24", func := "loop.example/g01922/laws.FnExactProductSteps", spec := "fnExactProductSteps", apart := false, narrowed := true }
def FnExactProductStepsUptoSaid : Prop := fnExactProductStepsUptoRow.holds Try.pinned (OpenSpec.upto fnExactProductStepsSpec)

/-- 'laws.FnExactAppendBatch', WHERE WHAT IT READS IS OF BULK AT MOST 1048576: true; the input reads as it did. -/
def fnExactAppendBatchUptoRow : OpenClaim := { program := "ythchonkpkgogjaa", sum := "2b139c626f41a69951d0e68f233421537f436838f73604025682a93504f4cc24", func := "loop.example/g01922/laws.FnExactAppendBatch", spec := "fnExactAppendBatch", inPlace := ["slices.overlaps[loop.example/g01922/impl.Edge]"], unfollowed := true, recurses := true, apart := false, narrowed := true }
def FnExactAppendBatchUptoSaid : Prop := fnExactAppendBatchUptoRow.holds Try.pinned (OpenSpec.upto fnExactAppendBatchSpec)

/-- 'laws.FnExactWordsUpTo', WHERE WHAT IT READS IS OF BULK AT MOST 1048576: true; the input reads as it did. -/
def fnExactWordsUpToUptoRow : OpenClaim := { program := "ythchonkpkgogjaa", sum := "2b139c626f41a69951d0e68f233421537f436838f73604025682a93504f4cc24", func := "loop.example/g01922/laws.FnExactWordsUpTo", spec := "fnExactWordsUpTo", recurses := true, apart := false, narrowed := true }
def FnExactWordsUpToUptoSaid : Prop := fnExactWordsUpToUptoRow.holds Try.pinned (OpenSpec.upto fnExactWordsUpToSpec)

end Rows
end Go.Proofs.Ythchonkpkgogjaa
