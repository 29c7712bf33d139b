/-
  No cell of these rows narrows 'for every input' (looked for: loops, veiled, ifaces, maps, wideKeys, modest, calm, conditions, laid).
  DERIVED. THE GIVEN ROWS OF THIS SEAT. 3 by the template 'for every input the law returns true; each argument reads behind the call as it read before'; 0 by the template 'total and deterministic' (their statements: YtkmhgeppenifoaaTotals.lean).
  GIVEN WITH THE SEED: the statements are not yours to turn. If you find one false, say at which input.
  Laid BY PROGRAM, IN A SANDBOX (cutbox-rows.mjs): the forced cells as the released guide's own fill.sh prints them over the translation 050f9f1ebe48ee14… (all of the seat's roots in one cut). By AI agents, Wed Nov 11 2026. No macro, syntax, notation, axiom, sorry.
-/
import Derived.Test.YtkmhgeppenifoaaChecked
import GoSem.Claim
import GoSem.ClaimJoined
import GoSem.ClaimMapViews
import Derived.JoinedTies
import Derived.KernelRfl
namespace Go.Proofs.Ytkmhgeppenifoaa
/- THE CELL 'sum', in the pinned program and in every row, IS THE sha256 OF THE DUMP (.gsa) THAT YtkmhgeppenifoaaProg.lean LOADS. Nothing in Lean hashes anything: it is a label: what it is worth is what the hold of that sum in a sandbox is worth. -/
noncomputable def Try.pinned : Pinned := { name := "ytkmhgeppenifoaa", sum := "050f9f1ebe48ee145c720850e13ac821bd34557a4e9903c492b7d397f69702ab", checked := Try.checked }
namespace Rows
def none {H : Type} : Left H := { results := [], args := [] }

/-- 'laws.FnExactProductSteps': WHATEVER THE INPUT: true; the input reads as it did. -/
def fnExactProductStepsSpec : ChangeSpec := { name := "fnExactProductSteps", fn := fun _ => fun
  | [d1, d2, d3, d4] => { results := [.lit (.bool true)], args := [d1, d2, d3, d4] }
  | _ => none }
def fnExactProductStepsRow : OpenClaim := { program := "ytkmhgeppenifoaa", sum := "050f9f1ebe48ee145c720850e13ac821bd34557a4e9903c492b7d397f69702ab", func := "loop.example/g01922/laws.FnExactProductSteps", spec := "fnExactProductSteps", apart := false }
def FnExactProductStepsSaid : Prop := fnExactProductStepsRow.holds Try.pinned (OpenSpec.ofChange fnExactProductStepsSpec)

/-- ITS FALSE NEIGHBOUR: 'it returns false'. Refute it at one input. -/
def fnExactProductStepsWrong : ChangeSpec := { name := "fnExactProductSteps", fn := fun _ => fun
  | [d1, d2, d3, d4] => { results := [.lit (.bool false)], args := [d1, d2, d3, d4] }
  | _ => none }
def FnExactProductStepsWrongFalsely : Prop := fnExactProductStepsRow.holds Try.pinned (OpenSpec.ofChange fnExactProductStepsWrong)

/-- 'laws.FnExactAppendBatch': WHATEVER THE INPUT: true; the input reads as it did. -/
def fnExactAppendBatchSpec : ChangeSpec := { name := "fnExactAppendBatch", fn := fun _ => fun
  | [d1, d2] => { results := [.lit (.bool true)], args := [d1, d2] }
  | _ => none }
def fnExactAppendBatchRow : OpenClaim := { program := "ytkmhgeppenifoaa", sum := "050f9f1ebe48ee145c720850e13ac821bd34557a4e9903c492b7d397f69702ab", func := "loop.example/g01922/laws.FnExactAppendBatch", spec := "fnExactAppendBatch", inPlace := ["slices.overlaps[loop.example/g01922/impl.Edge]"], unfollowed := true, recurses := true, apart := false }
def FnExactAppendBatchSaid : Prop := fnExactAppendBatchRow.holds Try.pinned (OpenSpec.ofChange fnExactAppendBatchSpec)

/-- ITS FALSE NEIGHBOUR: 'it returns false'. Refute it at one input. -/
def fnExactAppendBatchWrong : ChangeSpec := { name := "fnExactAppendBatch", fn := fun _ => fun
  | [d1, d2] => { results := [.lit (.bool false)], args := [d1, d2] }
  | _ => none }
def FnExactAppendBatchWrongFalsely : Prop := fnExactAppendBatchRow.holds Try.pinned (OpenSpec.ofChange fnExactAppendBatchWrong)

/-- 'laws.FnHistories': WHATEVER THE INPUT: true; the input reads as it did. -/
def fnHistoriesSpec : ChangeSpec := { name := "fnHistories", fn := fun _ => fun
  | [d] => { results := [.lit (.bool true)], args := [d] }
  | _ => none }
def fnHistoriesRow : OpenClaim := { program := "ytkmhgeppenifoaa", sum := "050f9f1ebe48ee145c720850e13ac821bd34557a4e9903c492b7d397f69702ab", func := "loop.example/g01922/laws.FnHistories", spec := "fnHistories", inPlace := ["slices.overlaps[loop.example/g01922/impl.Edge]"], unfollowed := true, recurses := true, apart := false }
def FnHistoriesSaid : Prop := fnHistoriesRow.holds Try.pinned (OpenSpec.ofChange fnHistoriesSpec)

/-- ITS FALSE NEIGHBOUR: 'it returns false'. Refute it at one input. -/
def fnHistoriesWrong : ChangeSpec := { name := "fnHistories", fn := fun _ => fun
  | [d] => { results := [.lit (.bool false)], args := [d] }
  | _ => none }
def FnHistoriesWrongFalsely : Prop := fnHistoriesRow.holds Try.pinned (OpenSpec.ofChange fnHistoriesWrong)

/- THE SECOND FORM. 'bulk': how many values and letters a reading holds, each counted each time it is reached (what is shared counts as often as it is met; a slice's spare places count too). A statement '..UptoSaid' is the law's where the arguments, and the package variables that the reading takes, are together of bulk at most 1048576: NARROWER than '..Said'. Prove '..Said' where nothing that the law and all that it calls make is longer than what came in: it says more and counts as full. Else prove '..UptoSaid'. A law counts once. -/
mutual
def uptoBulk {H : Type} : DataW H → Nat
  | .lit (.string bytes) => bytes.length + 1
  | .lit _ => 1
  | .nil => 1
  | .ptr d => uptoBulk d + 1
  | .slice elems spare => uptoBulkAll elems + uptoBulkAll spare + 1
  | .agg parts => uptoBulkAll parts + 1
  | .iface _ d => uptoBulk d + 1
  | .map entries => uptoBulkEntries entries + 1
  | .held _ => 1
def uptoBulkAll {H : Type} : List (DataW H) → Nat
  | [] => 0
  | d :: r => uptoBulk d + uptoBulkAll r
def uptoBulkEntries {H : Type} : List (Lit × DataW H) → Nat
  | [] => 0
  | x :: r => uptoBulkEntry x + uptoBulkEntries r
def uptoBulkEntry {H : Type} : Lit × DataW H → Nat
  | (.string bytes, d) => bytes.length + uptoBulk d + 1
  | (_, d) => uptoBulk d + 1
 end
def uptoSmall : (H : Type) → List (DataW H) → Bool := fun _ ds => decide (uptoBulkAll ds ≤ 1048576)
def OpenSpec.upto (s : _root_.Go.ChangeSpec) : _root_.Go.OpenSpec := { _root_.Go.OpenSpec.ofChange s with cond := some uptoSmall }

/-- 'laws.FnExactProductSteps', WHERE WHAT IT READS IS OF BULK AT MOST 1048576: true; the input reads as it did. -/
def fnExactProductStepsUptoRow : OpenClaim := { program := "ytkmhgeppenifoaa", sum := "050f9f1ebe48ee145c720850e13ac821bd34557a4e9903c492b7d397f69702ab", func := "loop.example/g01922/laws.FnExactProductSteps", spec := "fnExactProductSteps", apart := false, narrowed := true }
def FnExactProductStepsUptoSaid : Prop := fnExactProductStepsUptoRow.holds Try.pinned (OpenSpec.upto fnExactProductStepsSpec)

/-- 'laws.FnExactAppendBatch', WHERE WHAT IT READS IS OF BULK AT MOST 1048576: true; the input reads as it did. -/
def fnExactAppendBatchUptoRow : OpenClaim := { program := "ytkmhgeppenifoaa", sum := "050f9f1ebe48ee145c720850e13ac821bd34557a4e9903c492b7d397f69702ab", func := "loop.example/g01922/laws.FnExactAppendBatch", spec := "fnExactAppendBatch", inPlace := ["slices.overlaps[loop.example/g01922/impl.Edge]"], unfollowed := true, recurses := true, apart := false, narrowed := true }
def FnExactAppendBatchUptoSaid : Prop := fnExactAppendBatchUptoRow.holds Try.pinned (OpenSpec.upto fnExactAppendBatchSpec)

/-- 'laws.FnHistories', WHERE WHAT IT READS IS OF BULK AT MOST 1048576: true; the input reads as it did. -/
def fnHistoriesUptoRow : OpenClaim := { program := "ytkmhgeppenifoaa", sum := "050f9f1ebe48ee145c720850e13ac821bd34557a4e9903c492b7d397f69702ab", func := "loop.example/g01922/laws.FnHistories", spec := "fnHistories", inPlace := ["slices.overlaps[loop.example/g01922/impl.Edge]"], unfollowed := true, recurses := true, apart := false, narrowed := true }
def FnHistoriesUptoSaid : Prop := fnHistoriesUptoRow.holds Try.pinned (OpenSpec.upto fnHistoriesSpec)

end Rows
end Go.Proofs.Ytkmhgeppenifoaa
