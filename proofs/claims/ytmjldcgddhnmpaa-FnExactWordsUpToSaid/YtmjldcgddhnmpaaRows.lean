/-
  No cell of these rows narrows 'for every input' (looked for: loops, veiled, ifaces, maps, wideKeys, modest, calm, conditions, laid).
  DERIVED. THE GIVEN ROWS OF THIS SEAT. 4 by the template 'for every input the law returns true; each argument reads behind the call as it read before'; 0 by the template 'total and deterministic' (their statements: YtmjldcgddhnmpaaTotals.lean).
  GIVEN WITH THE SEED: the statements are not yours to turn. If you find one false, say at which input.
  Laid BY PROGRAM, IN A SANDBOX (cutbox-rows.mjs): the forced cells as the released guide's own fill.sh prints them over the translation 4c2dcac7ac983ec2… (all of the seat's roots in one cut). By AI agents, Wed Nov 11 2026. No macro, syntax, notation, axiom, sorry.
-/
import Derived.Test.YtmjldcgddhnmpaaChecked
import GoSem.Claim
import GoSem.ClaimJoined
import GoSem.ClaimMapViews
import Derived.JoinedTies
import Derived.KernelRfl
namespace Go.Proofs.Ytmjldcgddhnmpaa
/- THE CELL 'sum', in the pinned program and in every row, IS THE sha256 OF THE DUMP (.gsa) THAT YtmjldcgddhnmpaaProg.lean LOADS. Nothing in Lean hashes anything: it is a label: what it is worth is what the hold of that sum in a sandbox is worth. -/
noncomputable def Try.pinned : Pinned := { name := "ytmjldcgddhnmpaa", sum := "4c2dcac7ac983ec24dd2dfaf5259effaee80095b455fe2a905829950f7f1406b", checked := Try.checked }
namespace Rows
def none {H : Type} : Left H := { results := [], args := [] }

/-- 'laws.FnExactWordsUpTo': WHATEVER THE INPUT: true; the input reads as it did. -/
def fnExactWordsUpToSpec : ChangeSpec := { name := "fnExactWordsUpTo", fn := fun _ => fun
  | [d1, d2] => { results := [.lit (.bool true)], args := [d1, d2] }
  | _ => none }
def fnExactWordsUpToRow : OpenClaim := { program := "ytmjldcgddhnmpaa", sum := "4c2dcac7ac983ec24dd2dfaf5259effaee80095b455fe2a905829950f7f1406b", func := "loop.example/g01922/laws.FnExactWordsUpTo", spec := "fnExactWordsUpTo", recurses := true, apart := false }
def FnExactWordsUpToSaid : Prop := fnExactWordsUpToRow.holds Try.pinned (OpenSpec.ofChange fnExactWordsUpToSpec)

/-- ITS FALSE NEIGHBOUR: 'it returns false'. Refute it at one input. -/
def fnExactWordsUpToWrong : ChangeSpec := { name := "fnExactWordsUpTo", fn := fun _ => fun
  | [d1, d2] => { results := [.lit (.bool false)], args := [d1, d2] }
  | _ => none }
def FnExactWordsUpToWrongFalsely : Prop := fnExactWordsUpToRow.holds Try.pinned (OpenSpec.ofChange fnExactWordsUpToWrong)

/-- 'laws.FnExactIsFiniteLanguage': WHATEVER THE INPUT: true; the input reads as it did. -/
def fnExactIsFiniteLanguageSpec : ChangeSpec := { name := "fnExactIsFiniteLanguage", fn := fun _ => fun
  | [d] => { results := [.lit (.bool true)], args := [d] }
  | _ => none }
def fnExactIsFiniteLanguageRow : OpenClaim := { program := "ytmjldcgddhnmpaa", sum := "4c2dcac7ac983ec24dd2dfaf5259effaee80095b455fe2a905829950f7f1406b", func := "loop.example/g01922/laws.FnExactIsFiniteLanguage", spec := "fnExactIsFiniteLanguage", unfollowed := true, recurses := true, apart := false }
def FnExactIsFiniteLanguageSaid : Prop := fnExactIsFiniteLanguageRow.holds Try.pinned (OpenSpec.ofChange fnExactIsFiniteLanguageSpec)

/-- ITS FALSE NEIGHBOUR: 'it returns false'. Refute it at one input. -/
def fnExactIsFiniteLanguageWrong : ChangeSpec := { name := "fnExactIsFiniteLanguage", fn := fun _ => fun
  | [d] => { results := [.lit (.bool false)], args := [d] }
  | _ => none }
def FnExactIsFiniteLanguageWrongFalsely : Prop := fnExactIsFiniteLanguageRow.holds Try.pinned (OpenSpec.ofChange fnExactIsFiniteLanguageWrong)

/-- 'laws.FnExactProductSteps': WHATEVER THE INPUT: true; the input reads as it did. -/
def fnExactProductStepsSpec : ChangeSpec := { name := "fnExactProductSteps", fn := fun _ => fun
  | [d1, d2, d3, d4] => { results := [.lit (.bool true)], args := [d1, d2, d3, d4] }
  | _ => none }
def fnExactProductStepsRow : OpenClaim := { program := "ytmjldcgddhnmpaa", sum := "4c2dcac7ac983ec24dd2dfaf5259effaee80095b455fe2a905829950f7f1406b", func := "loop.example/g01922/laws.FnExactProductSteps", spec := "fnExactProductSteps", apart := false }
def FnExactProductStepsSaid : Prop := fnExactProductStepsRow.holds Try.pinned (OpenSpec.ofChange fnExactProductStepsSpec)

/-- ITS FALSE NEIGHBOUR: 'it returns false'. Refute it at one input. -/
def fnExactProductStepsWrong : ChangeSpec := { name := "fnExactProductSteps", fn := fun _ => fun
  | [d1, d2, d3, d4] => { results := [.lit (.bool false)], args := [d1, d2, d3, d4] }
  | _ => none }
def FnExactProductStepsWrongFalsely : Prop := fnExactProductStepsRow.holds Try.pinned (OpenSpec.ofChange fnExactProductStepsWrong)

/-- 'laws.FnExactAppendBatch': WHATEVER THE INPUT: true; the input reads as it did. -/
def fnExactAppendBatchSpec : ChangeSpec := { name := "fnExactAppendBatch", fn := fun _ => fun
  | [d1, d2] => { results := [.lit (.bool true)], args := [d1, d2] }
  | _ => none }
def fnExactAppendBatchRow : OpenClaim := { program := "ytmjldcgddhnmpaa", sum := "4c2dcac7ac983ec24dd2dfaf5259effaee80095b455fe2a905829950f7f1406b", func := "loop.example/g01922/laws.FnExactAppendBatch", spec := "fnExactAppendBatch", inPlace := ["slices.overlaps[loop.example/g01922/impl.Edge]"], unfollowed := true, recurses := true, apart := false }
def FnExactAppendBatchSaid : Prop := fnExactAppendBatchRow.holds Try.pinned (OpenSpec.ofChange fnExactAppendBatchSpec)

/-- ITS FALSE NEIGHBOUR: 'it returns false'. Refute it at one input. -/
def fnExactAppendBatchWrong : ChangeSpec := { name := "fnExactAppendBatch", fn := fun _ => fun
  | [d1, d2] => { results := [.lit (.bool false)], args := [d1, d2] }
  | _ => none }
def FnExactAppendBatchWrongFalsely : Prop := fnExactAppendBatchRow.holds Try.pinned (OpenSpec.ofChange fnExactAppendBatchWrong)

/- THE SECOND FORM. 'bulk': how many values and letters a reading holds, each counted each time it is reached (what is shared counts as often as it is met; a slice's spare places count too). A statement '..UptoSaid' is the law's where the arguments, and the package variables that the reading takes, are together of bulk at most 1048576: NARROWER than '..Said'. Prove '..Said' where nothing that the law and all that it calls make is longer than what came in: it says more and counts as full. Else prove '..UptoSaid'. A law counts once. -/
mutual
def uptoBulk {H : Type} : DataW H → Nat
  | .lit (.string bytes) => bytes.length + 1
  | .lit _ => 1
  | .nil => 1
  | .ptr d => uptoBulk d + 1
  | .slice elems spare => uptoBulkAll elems + uptoBulkAll spare + 1
  | .agg parts => uptoBulkAll parts + 1
  | .iface _ d => uptoBulk d + 1
  | .map entries => uptoBulkEntries entries + 1
  | .held _ => 1
def uptoBulkAll {H : Type} : List (DataW H) → Nat
  | [] => 0
  | d :: r => uptoBulk d + uptoBulkAll r
def uptoBulkEntries {H : Type} : List (Lit × DataW H) → Nat
  | [] => 0
  | x :: r => uptoBulkEntry x + uptoBulkEntries r
def uptoBulkEntry {H : Type} : Lit × DataW H → Nat
  | (.string bytes, d) => bytes.length + uptoBulk d + 1
  | (_, d) => uptoBulk d + 1
 end
def uptoSmall : (H : Type) → List (DataW H) → Bool := fun _ ds => decide (uptoBulkAll ds ≤ 1048576)
def OpenSpec.upto (s : _root_.Go.ChangeSpec) : _root_.Go.OpenSpec := { _root_.Go.OpenSpec.ofChange s with cond := some uptoSmall }

/-- 'laws.FnExactWordsUpTo', WHERE WHAT IT READS IS OF BULK AT MOST 1048576: true; the input reads as it did. -/
def fnExactWordsUpToUptoRow : OpenClaim := { program := "ytmjldcgddhnmpaa", sum := "4c2dcac7ac983ec24dd2dfaf5259effaee80095b455fe2a905829950f7f1406b", func := "loop.example/g01922/laws.FnExactWordsUpTo", spec := "fnExactWordsUpTo", recurses := true, apart := false, narrowed := true }
def FnExactWordsUpToUptoSaid : Prop := fnExactWordsUpToUptoRow.holds Try.pinned (OpenSpec.upto fnExactWordsUpToSpec)

/-- 'laws.FnExactIsFiniteLanguage', WHERE WHAT IT READS IS OF BULK AT MOST 1048576: true; the input reads as it did. -/
def fnExactIsFiniteLanguageUptoRow : OpenClaim := { program := "ytmjldcgddhnmpaa", sum := "4c2dcac7ac983ec24dd2dfaf5259effaee80095b455fe2a905829950f7f1406b", func := "loop.example/g01922/laws.FnExactIsFiniteLanguage", spec := "fnExactIsFiniteLanguage", unfollowed := true, recurses := true, apart := false, narrowed := true }
def FnExactIsFiniteLanguageUptoSaid : Prop := fnExactIsFiniteLanguageUptoRow.holds Try.pinned (OpenSpec.upto fnExactIsFiniteLanguageSpec)

/-- 'laws.FnExactProductSteps', WHERE WHAT IT READS IS OF BULK AT MOST 1048576: true; the input reads as it did. -/
def fnExactProductStepsUptoRow : OpenClaim := { program := "ytmjldcgddhnmpaa", sum := "4c2dcac7ac983ec24dd2dfaf5259effaee80095b455fe2a905829950f7f1406b", func := "loop.example/g01922/laws.FnExactProductSteps", spec := "fnExactProductSteps", apart := false, narrowed := true }
def FnExactProductStepsUptoSaid : Prop := fnExactProductStepsUptoRow.holds Try.pinned (OpenSpec.upto fnExactProductStepsSpec)

/-- 'laws.FnExactAppendBatch', WHERE WHAT IT READS IS OF BULK AT MOST 1048576: true; the input reads as it did. -/
def fnExactAppendBatchUptoRow : OpenClaim := { program := "ytmjldcgddhnmpaa", sum := "4c2dcac7ac983ec24dd2dfaf5259effaee80095b455fe2a905829950f7f1406b", func := "loop.example/g01922/laws.FnExactAppendBatch", spec := "fnExactAppendBatch", inPlace := ["slices.overlaps[loop.example/g01922/impl.Edge]"], unfollowed := true, recurses := true, apart := false, narrowed := true }
def FnExactAppendBatchUptoSaid : Prop := fnExactAppendBatchUptoRow.holds Try.pinned (OpenSpec.upto fnExactAppendBatchSpec)

end Rows
end Go.Proofs.Ytmjldcgddhnmpaa
