/-
  No cell of these rows narrows 'for every input' (looked for: loops, veiled, ifaces, maps, wideKeys, modest, calm, conditions, laid).
  DERIVED. THE GIVEN ROWS OF THIS SEAT. 12 by the template 'for every input the law returns true; each argument reads behind the call as it read before'; 0 by the template 'total and deterministic' (their statements: YtdhadlkeogoiiaaTotals.lean).
  GIVEN WITH THE SEED: the statements are not yours to turn. If you find one false, say at which input.
  Laid BY PROGRAM, IN A SANDBOX (cutbox-rows.mjs): the forced cells as the released guide's own fill.sh prints them over the translation 63981d1853dbc69b… (all of the seat's roots in one cut). By AI agents, Wed Nov 11 2026. No macro, syntax, notation, axiom, sorry.
-/
import Derived.Test.YtdhadlkeogoiiaaChecked
import GoSem.Claim
import GoSem.ClaimJoined
import GoSem.ClaimMapViews
import Derived.JoinedTies
import Derived.KernelRfl
namespace Go.Proofs.Ytdhadlkeogoiiaa
/- THE CELL 'sum', in the pinned program and in every row, IS THE sha256 OF THE DUMP (.gsa) THAT YtdhadlkeogoiiaaProg.lean LOADS. Nothing in Lean hashes anything: it is a label: what it is worth is what the hold of that sum in a sandbox is worth. -/
noncomputable def Try.pinned : Pinned := { name := "ytdhadlkeogoiiaa", sum := "63981d1853dbc69bd18a9bff8b9c036408c1c42bcbd6ec0c728302b8ca64805d", checked := Try.checked }
namespace Rows
def none {H : Type} : Left H := { results := [], args := [] }

/-- 'laws.FnExactIsValidAutomaton': WHATEVER THE INPUT: true; the input reads as it did. -/
def fnExactIsValidAutomatonSpec : ChangeSpec := { name := "fnExactIsValidAutomaton", fn := fun _ => fun
  | [d] => { results := [.lit (.bool true)], args := [d] }
  | _ => none }
def fnExactIsValidAutomatonRow : OpenClaim := { program := "ytdhadlkeogoiiaa", sum := "63981d1853dbc69bd18a9bff8b9c036408c1c42bcbd6ec0c728302b8ca64805d", func := "loop.example/g01922/laws.FnExactIsValidAutomaton", spec := "fnExactIsValidAutomaton", apart := false }
def FnExactIsValidAutomatonSaid : Prop := fnExactIsValidAutomatonRow.holds Try.pinned (OpenSpec.ofChange fnExactIsValidAutomatonSpec)

/-- ITS FALSE NEIGHBOUR: 'it returns false'. Refute it at one input. -/
def fnExactIsValidAutomatonWrong : ChangeSpec := { name := "fnExactIsValidAutomaton", fn := fun _ => fun
  | [d] => { results := [.lit (.bool false)], args := [d] }
  | _ => none }
def FnExactIsValidAutomatonWrongFalsely : Prop := fnExactIsValidAutomatonRow.holds Try.pinned (OpenSpec.ofChange fnExactIsValidAutomatonWrong)

/-- 'laws.FnExactProductIndex': WHATEVER THE INPUT: true; the input reads as it did. -/
def fnExactProductIndexSpec : ChangeSpec := { name := "fnExactProductIndex", fn := fun _ => fun
  | [d1, d2, d3] => { results := [.lit (.bool true)], args := [d1, d2, d3] }
  | _ => none }
def fnExactProductIndexRow : OpenClaim := { program := "ytdhadlkeogoiiaa", sum := "63981d1853dbc69bd18a9bff8b9c036408c1c42bcbd6ec0c728302b8ca64805d", func := "loop.example/g01922/laws.FnExactProductIndex", spec := "fnExactProductIndex", apart := false }
def FnExactProductIndexSaid : Prop := fnExactProductIndexRow.holds Try.pinned (OpenSpec.ofChange fnExactProductIndexSpec)

/-- ITS FALSE NEIGHBOUR: 'it returns false'. Refute it at one input. -/
def fnExactProductIndexWrong : ChangeSpec := { name := "fnExactProductIndex", fn := fun _ => fun
  | [d1, d2, d3] => { results := [.lit (.bool false)], args := [d1, d2, d3] }
  | _ => none }
def FnExactProductIndexWrongFalsely : Prop := fnExactProductIndexRow.holds Try.pinned (OpenSpec.ofChange fnExactProductIndexWrong)

/-- 'laws.FnExactEqualAutomata': WHATEVER THE INPUT: true; the input reads as it did. -/
def fnExactEqualAutomataSpec : ChangeSpec := { name := "fnExactEqualAutomata", fn := fun _ => fun
  | [d1, d2] => { results := [.lit (.bool true)], args := [d1, d2] }
  | _ => none }
def fnExactEqualAutomataRow : OpenClaim := { program := "ytdhadlkeogoiiaa", sum := "63981d1853dbc69bd18a9bff8b9c036408c1c42bcbd6ec0c728302b8ca64805d", func := "loop.example/g01922/laws.FnExactEqualAutomata", spec := "fnExactEqualAutomata", unfollowed := true, recurses := true, apart := false }
def FnExactEqualAutomataSaid : Prop := fnExactEqualAutomataRow.holds Try.pinned (OpenSpec.ofChange fnExactEqualAutomataSpec)

/-- ITS FALSE NEIGHBOUR: 'it returns false'. Refute it at one input. -/
def fnExactEqualAutomataWrong : ChangeSpec := { name := "fnExactEqualAutomata", fn := fun _ => fun
  | [d1, d2] => { results := [.lit (.bool false)], args := [d1, d2] }
  | _ => none }
def FnExactEqualAutomataWrongFalsely : Prop := fnExactEqualAutomataRow.holds Try.pinned (OpenSpec.ofChange fnExactEqualAutomataWrong)

/-- 'laws.FnExactRunWord': WHATEVER THE INPUT: true; the input reads as it did. -/
def fnExactRunWordSpec : ChangeSpec := { name := "fnExactRunWord", fn := fun _ => fun
  | [d1, d2] => { results := [.lit (.bool true)], args := [d1, d2] }
  | _ => none }
def fnExactRunWordRow : OpenClaim := { program := "ytdhadlkeogoiiaa", sum := "63981d1853dbc69bd18a9bff8b9c036408c1c42bcbd6ec0c728302b8ca64805d", func := "loop.example/g01922/laws.FnExactRunWord", spec := "fnExactRunWord", apart := false }
def FnExactRunWordSaid : Prop := fnExactRunWordRow.holds Try.pinned (OpenSpec.ofChange fnExactRunWordSpec)

/-- ITS FALSE NEIGHBOUR: 'it returns false'. Refute it at one input. -/
def fnExactRunWordWrong : ChangeSpec := { name := "fnExactRunWord", fn := fun _ => fun
  | [d1, d2] => { results := [.lit (.bool false)], args := [d1, d2] }
  | _ => none }
def FnExactRunWordWrongFalsely : Prop := fnExactRunWordRow.holds Try.pinned (OpenSpec.ofChange fnExactRunWordWrong)

/-- 'laws.FnExactIsEmptyAutomaton': WHATEVER THE INPUT: true; the input reads as it did. -/
def fnExactIsEmptyAutomatonSpec : ChangeSpec := { name := "fnExactIsEmptyAutomaton", fn := fun _ => fun
  | [d] => { results := [.lit (.bool true)], args := [d] }
  | _ => none }
def fnExactIsEmptyAutomatonRow : OpenClaim := { program := "ytdhadlkeogoiiaa", sum := "63981d1853dbc69bd18a9bff8b9c036408c1c42bcbd6ec0c728302b8ca64805d", func := "loop.example/g01922/laws.FnExactIsEmptyAutomaton", spec := "fnExactIsEmptyAutomaton", apart := false }
def FnExactIsEmptyAutomatonSaid : Prop := fnExactIsEmptyAutomatonRow.holds Try.pinned (OpenSpec.ofChange fnExactIsEmptyAutomatonSpec)

/-- ITS FALSE NEIGHBOUR: 'it returns false'. Refute it at one input. -/
def fnExactIsEmptyAutomatonWrong : ChangeSpec := { name := "fnExactIsEmptyAutomaton", fn := fun _ => fun
  | [d] => { results := [.lit (.bool false)], args := [d] }
  | _ => none }
def FnExactIsEmptyAutomatonWrongFalsely : Prop := fnExactIsEmptyAutomatonRow.holds Try.pinned (OpenSpec.ofChange fnExactIsEmptyAutomatonWrong)

/-- 'laws.FnExactAcceptsWord': WHATEVER THE INPUT: true; the input reads as it did. -/
def fnExactAcceptsWordSpec : ChangeSpec := { name := "fnExactAcceptsWord", fn := fun _ => fun
  | [d1, d2] => { results := [.lit (.bool true)], args := [d1, d2] }
  | _ => none }
def fnExactAcceptsWordRow : OpenClaim := { program := "ytdhadlkeogoiiaa", sum := "63981d1853dbc69bd18a9bff8b9c036408c1c42bcbd6ec0c728302b8ca64805d", func := "loop.example/g01922/laws.FnExactAcceptsWord", spec := "fnExactAcceptsWord", apart := false }
def FnExactAcceptsWordSaid : Prop := fnExactAcceptsWordRow.holds Try.pinned (OpenSpec.ofChange fnExactAcceptsWordSpec)

/-- ITS FALSE NEIGHBOUR: 'it returns false'. Refute it at one input. -/
def fnExactAcceptsWordWrong : ChangeSpec := { name := "fnExactAcceptsWord", fn := fun _ => fun
  | [d1, d2] => { results := [.lit (.bool false)], args := [d1, d2] }
  | _ => none }
def FnExactAcceptsWordWrongFalsely : Prop := fnExactAcceptsWordRow.holds Try.pinned (OpenSpec.ofChange fnExactAcceptsWordWrong)

/-- 'laws.FnExactTestClosure': WHATEVER THE INPUT: true; the input reads as it did. -/
def fnExactTestClosureSpec : ChangeSpec := { name := "fnExactTestClosure", fn := fun _ => fun
  | [d1, d2, d3] => { results := [.lit (.bool true)], args := [d1, d2, d3] }
  | _ => none }
def fnExactTestClosureRow : OpenClaim := { program := "ytdhadlkeogoiiaa", sum := "63981d1853dbc69bd18a9bff8b9c036408c1c42bcbd6ec0c728302b8ca64805d", func := "loop.example/g01922/laws.FnExactTestClosure", spec := "fnExactTestClosure", apart := false }
def FnExactTestClosureSaid : Prop := fnExactTestClosureRow.holds Try.pinned (OpenSpec.ofChange fnExactTestClosureSpec)

/-- ITS FALSE NEIGHBOUR: 'it returns false'. Refute it at one input. -/
def fnExactTestClosureWrong : ChangeSpec := { name := "fnExactTestClosure", fn := fun _ => fun
  | [d1, d2, d3] => { results := [.lit (.bool false)], args := [d1, d2, d3] }
  | _ => none }
def FnExactTestClosureWrongFalsely : Prop := fnExactTestClosureRow.holds Try.pinned (OpenSpec.ofChange fnExactTestClosureWrong)

/-- 'laws.FnExactUsefulStates': WHATEVER THE INPUT: true; the input reads as it did. -/
def fnExactUsefulStatesSpec : ChangeSpec := { name := "fnExactUsefulStates", fn := fun _ => fun
  | [d] => { results := [.lit (.bool true)], args := [d] }
  | _ => none }
def fnExactUsefulStatesRow : OpenClaim := { program := "ytdhadlkeogoiiaa", sum := "63981d1853dbc69bd18a9bff8b9c036408c1c42bcbd6ec0c728302b8ca64805d", func := "loop.example/g01922/laws.FnExactUsefulStates", spec := "fnExactUsefulStates", apart := false }
def FnExactUsefulStatesSaid : Prop := fnExactUsefulStatesRow.holds Try.pinned (OpenSpec.ofChange fnExactUsefulStatesSpec)

/-- ITS FALSE NEIGHBOUR: 'it returns false'. Refute it at one input. -/
def fnExactUsefulStatesWrong : ChangeSpec := { name := "fnExactUsefulStates", fn := fun _ => fun
  | [d] => { results := [.lit (.bool false)], args := [d] }
  | _ => none }
def FnExactUsefulStatesWrongFalsely : Prop := fnExactUsefulStatesRow.holds Try.pinned (OpenSpec.ofChange fnExactUsefulStatesWrong)

/-- 'laws.FnExactIsFiniteLanguage': WHATEVER THE INPUT: true; the input reads as it did. -/
def fnExactIsFiniteLanguageSpec : ChangeSpec := { name := "fnExactIsFiniteLanguage", fn := fun _ => fun
  | [d] => { results := [.lit (.bool true)], args := [d] }
  | _ => none }
def fnExactIsFiniteLanguageRow : OpenClaim := { program := "ytdhadlkeogoiiaa", sum := "63981d1853dbc69bd18a9bff8b9c036408c1c42bcbd6ec0c728302b8ca64805d", func := "loop.example/g01922/laws.FnExactIsFiniteLanguage", spec := "fnExactIsFiniteLanguage", unfollowed := true, recurses := true, apart := false }
def FnExactIsFiniteLanguageSaid : Prop := fnExactIsFiniteLanguageRow.holds Try.pinned (OpenSpec.ofChange fnExactIsFiniteLanguageSpec)

/-- ITS FALSE NEIGHBOUR: 'it returns false'. Refute it at one input. -/
def fnExactIsFiniteLanguageWrong : ChangeSpec := { name := "fnExactIsFiniteLanguage", fn := fun _ => fun
  | [d] => { results := [.lit (.bool false)], args := [d] }
  | _ => none }
def FnExactIsFiniteLanguageWrongFalsely : Prop := fnExactIsFiniteLanguageRow.holds Try.pinned (OpenSpec.ofChange fnExactIsFiniteLanguageWrong)

/-- 'laws.FnExactStateClasses': WHATEVER THE INPUT: true; the input reads as it did. -/
def fnExactStateClassesSpec : ChangeSpec := { name := "fnExactStateClasses", fn := fun _ => fun
  | [d] => { results := [.lit (.bool true)], args := [d] }
  | _ => none }
def fnExactStateClassesRow : OpenClaim := { program := "ytdhadlkeogoiiaa", sum := "63981d1853dbc69bd18a9bff8b9c036408c1c42bcbd6ec0c728302b8ca64805d", func := "loop.example/g01922/laws.FnExactStateClasses", spec := "fnExactStateClasses", unfollowed := true, recurses := true, apart := false }
def FnExactStateClassesSaid : Prop := fnExactStateClassesRow.holds Try.pinned (OpenSpec.ofChange fnExactStateClassesSpec)

/-- ITS FALSE NEIGHBOUR: 'it returns false'. Refute it at one input. -/
def fnExactStateClassesWrong : ChangeSpec := { name := "fnExactStateClasses", fn := fun _ => fun
  | [d] => { results := [.lit (.bool false)], args := [d] }
  | _ => none }
def FnExactStateClassesWrongFalsely : Prop := fnExactStateClassesRow.holds Try.pinned (OpenSpec.ofChange fnExactStateClassesWrong)

/-- 'laws.FnExactPositionsMatch': WHATEVER THE INPUT: true; the input reads as it did. -/
def fnExactPositionsMatchSpec : ChangeSpec := { name := "fnExactPositionsMatch", fn := fun _ => fun
  | [d1, d2] => { results := [.lit (.bool true)], args := [d1, d2] }
  | _ => none }
def fnExactPositionsMatchRow : OpenClaim := { program := "ytdhadlkeogoiiaa", sum := "63981d1853dbc69bd18a9bff8b9c036408c1c42bcbd6ec0c728302b8ca64805d", func := "loop.example/g01922/laws.FnExactPositionsMatch", spec := "fnExactPositionsMatch", unfollowed := true, recurses := true, apart := false }
def FnExactPositionsMatchSaid : Prop := fnExactPositionsMatchRow.holds Try.pinned (OpenSpec.ofChange fnExactPositionsMatchSpec)

/-- ITS FALSE NEIGHBOUR: 'it returns false'. Refute it at one input. -/
def fnExactPositionsMatchWrong : ChangeSpec := { name := "fnExactPositionsMatch", fn := fun _ => fun
  | [d1, d2] => { results := [.lit (.bool false)], args := [d1, d2] }
  | _ => none }
def FnExactPositionsMatchWrongFalsely : Prop := fnExactPositionsMatchRow.holds Try.pinned (OpenSpec.ofChange fnExactPositionsMatchWrong)

/-- 'laws.FnExactCountRuns': WHATEVER THE INPUT: true; the input reads as it did. -/
def fnExactCountRunsSpec : ChangeSpec := { name := "fnExactCountRuns", fn := fun _ => fun
  | [d1, d2] => { results := [.lit (.bool true)], args := [d1, d2] }
  | _ => none }
def fnExactCountRunsRow : OpenClaim := { program := "ytdhadlkeogoiiaa", sum := "63981d1853dbc69bd18a9bff8b9c036408c1c42bcbd6ec0c728302b8ca64805d", func := "loop.example/g01922/laws.FnExactCountRuns", spec := "fnExactCountRuns", unfollowed := true, recurses := true, apart := false }
def FnExactCountRunsSaid : Prop := fnExactCountRunsRow.holds Try.pinned (OpenSpec.ofChange fnExactCountRunsSpec)

/-- ITS FALSE NEIGHBOUR: 'it returns false'. Refute it at one input. -/
def fnExactCountRunsWrong : ChangeSpec := { name := "fnExactCountRuns", fn := fun _ => fun
  | [d1, d2] => { results := [.lit (.bool false)], args := [d1, d2] }
  | _ => none }
def FnExactCountRunsWrongFalsely : Prop := fnExactCountRunsRow.holds Try.pinned (OpenSpec.ofChange fnExactCountRunsWrong)

/- THE SECOND FORM. 'bulk': how many values and letters a reading holds, each counted each time it is reached (what is shared counts as often as it is met; a slice's spare places count too). A statement '..UptoSaid' is the law's where the arguments, and the package variables that the reading takes, are together of bulk at most 1048576: NARROWER than '..Said'. Prove '..Said' where nothing that the law and all that it calls make is longer than what came in: it says more and counts as full. Else prove '..UptoSaid'. A law counts once. -/
mutual
def uptoBulk {H : Type} : DataW H → Nat
  | .lit (.string bytes) => bytes.length + 1
  | .lit _ => 1
  | .nil => 1
  | .ptr d => uptoBulk d + 1
  | .slice elems spare => uptoBulkAll elems + uptoBulkAll spare + 1
  | .agg parts => uptoBulkAll parts + 1
  | .iface _ d => uptoBulk d + 1
  | .map entries => uptoBulkEntries entries + 1
  | .held _ => 1
def uptoBulkAll {H : Type} : List (DataW H) → Nat
  | [] => 0
  | d :: r => uptoBulk d + uptoBulkAll r
def uptoBulkEntries {H : Type} : List (Lit × DataW H) → Nat
  | [] => 0
  | x :: r => uptoBulkEntry x + uptoBulkEntries r
def uptoBulkEntry {H : Type} : Lit × DataW H → Nat
  | (.string bytes, d) => bytes.length + uptoBulk d + 1
  | (_, d) => uptoBulk d + 1
 end
def uptoSmall : (H : Type) → List (DataW H) → Bool := fun _ ds => decide (uptoBulkAll ds ≤ 1048576)
def OpenSpec.upto (s : _root_.Go.ChangeSpec) : _root_.Go.OpenSpec := { _root_.Go.OpenSpec.ofChange s with cond := some uptoSmall }

/-- 'laws.FnExactIsValidAutomaton', WHERE WHAT IT READS IS OF BULK AT MOST 1048576: true; the input reads as it did. -/
def fnExactIsValidAutomatonUptoRow : OpenClaim := { program := "ytdhadlkeogoiiaa", sum := "63981d1853dbc69bd18a9bff8b9c036408c1c42bcbd6ec0c728302b8ca64805d", func := "loop.example/g01922/laws.FnExactIsValidAutomaton", spec := "fnExactIsValidAutomaton", apart := false, narrowed := true }
def FnExactIsValidAutomatonUptoSaid : Prop := fnExactIsValidAutomatonUptoRow.holds Try.pinned (OpenSpec.upto fnExactIsValidAutomatonSpec)

/-- 'laws.FnExactProductIndex', WHERE WHAT IT READS IS OF BULK AT MOST 1048576: true; the input reads as it did. -/
def fnExactProductIndexUptoRow : OpenClaim := { program := "ytdhadlkeogoiiaa", sum := "63981d1853dbc69bd18a9bff8b9c036408c1c42bcbd6ec0c728302b8ca64805d", func := "loop.example/g01922/laws.FnExactProductIndex", spec := "fnExactProductIndex", apart := false, narrowed := true }
def FnExactProductIndexUptoSaid : Prop := fnExactProductIndexUptoRow.holds Try.pinned (OpenSpec.upto fnExactProductIndexSpec)

/-- 'laws.FnExactEqualAutomata', WHERE WHAT IT READS IS OF BULK AT MOST 1048576: true; the input reads as it did. -/
def fnExactEqualAutomataUptoRow : OpenClaim := { program := "ytdhadlkeogoiiaa", sum := "63981d1853dbc69bd18a9bff8b9c036408c1c42bcbd6ec0c728302b8ca64805d", func := "loop.example/g01922/laws.FnExactEqualAutomata", spec := "fnExactEqualAutomata", unfollowed := true, recurses := true, apart := false, narrowed := true }
def FnExactEqualAutomataUptoSaid : Prop := fnExactEqualAutomataUptoRow.holds Try.pinned (OpenSpec.upto fnExactEqualAutomataSpec)

/-- 'laws.FnExactRunWord', WHERE WHAT IT READS IS OF BULK AT MOST 1048576: true; the input reads as it did. -/
def fnExactRunWordUptoRow : OpenClaim := { program := "ytdhadlkeogoiiaa", sum := "63981d1853dbc69bd18a9bff8b9c036408c1c42bcbd6ec0c728302b8ca64805d", func := "loop.example/g01922/laws.FnExactRunWord", spec := "fnExactRunWord", apart := false, narrowed := true }
def FnExactRunWordUptoSaid : Prop := fnExactRunWordUptoRow.holds Try.pinned (OpenSpec.upto fnExactRunWordSpec)

/-- 'laws.FnExactIsEmptyAutomaton', WHERE WHAT IT READS IS OF BULK AT MOST 1048576: true; the input reads as it did. -/
def fnExactIsEmptyAutomatonUptoRow : OpenClaim := { program := "ytdhadlkeogoiiaa", sum := "63981d1853dbc69bd18a9bff8b9c036408c1c42bcbd6ec0c728302b8ca64805d", func := "loop.example/g01922/laws.FnExactIsEmptyAutomaton", spec := "fnExactIsEmptyAutomaton", apart := false, narrowed := true }
def FnExactIsEmptyAutomatonUptoSaid : Prop := fnExactIsEmptyAutomatonUptoRow.holds Try.pinned (OpenSpec.upto fnExactIsEmptyAutomatonSpec)

/-- 'laws.FnExactAcceptsWord', WHERE WHAT IT READS IS OF BULK AT MOST 1048576: true; the input reads as it did. -/
def fnExactAcceptsWordUptoRow : OpenClaim := { program := "ytdhadlkeogoiiaa", sum := "63981d1853dbc69bd18a9bff8b9c036408c1c42bcbd6ec0c728302b8ca64805d", func := "loop.example/g01922/laws.FnExactAcceptsWord", spec := "fnExactAcceptsWord", apart := false, narrowed := true }
def FnExactAcceptsWordUptoSaid : Prop := fnExactAcceptsWordUptoRow.holds Try.pinned (OpenSpec.upto fnExactAcceptsWordSpec)

/-- 'laws.FnExactTestClosure', WHERE WHAT IT READS IS OF BULK AT MOST 1048576: true; the input reads as it did. -/
def fnExactTestClosureUptoRow : OpenClaim := { program := "ytdhadlkeogoiiaa", sum := "63981d1853dbc69bd18a9bff8b9c036408c1c42bcbd6ec0c728302b8ca64805d", func := "loop.example/g01922/laws.FnExactTestClosure", spec := "fnExactTestClosure", apart := false, narrowed := true }
def FnExactTestClosureUptoSaid : Prop := fnExactTestClosureUptoRow.holds Try.pinned (OpenSpec.upto fnExactTestClosureSpec)

/-- 'laws.FnExactUsefulStates', WHERE WHAT IT READS IS OF BULK AT MOST 1048576: true; the input reads as it did. -/
def fnExactUsefulStatesUptoRow : OpenClaim := { program := "ytdhadlkeogoiiaa", sum := "63981d1853dbc69bd18a9bff8b9c036408c1c42bcbd6ec0c728302b8ca64805d", func := "loop.example/g01922/laws.FnExactUsefulStates", spec := "fnExactUsefulStates", apart := false, narrowed := true }
def FnExactUsefulStatesUptoSaid : Prop := fnExactUsefulStatesUptoRow.holds Try.pinned (OpenSpec.upto fnExactUsefulStatesSpec)

/-- 'laws.FnExactIsFiniteLanguage', WHERE WHAT IT READS IS OF BULK AT MOST 1048576: true; the input reads as it did. -/
def fnExactIsFiniteLanguageUptoRow : OpenClaim := { program := "ytdhadlkeogoiiaa", sum := "63981d1853dbc69bd18a9bff8b9c036408c1c42bcbd6ec0c728302b8ca64805d", func := "loop.example/g01922/laws.FnExactIsFiniteLanguage", spec := "fnExactIsFiniteLanguage", unfollowed := true, recurses := true, apart := false, narrowed := true }
def FnExactIsFiniteLanguageUptoSaid : Prop := fnExactIsFiniteLanguageUptoRow.holds Try.pinned (OpenSpec.upto fnExactIsFiniteLanguageSpec)

/-- 'laws.FnExactStateClasses', WHERE WHAT IT READS IS OF BULK AT MOST 1048576: true; the input reads as it did. -/
def fnExactStateClassesUptoRow : OpenClaim := { program := "ytdhadlkeogoiiaa", sum := "63981d1853dbc69bd18a9bff8b9c036408c1c42bcbd6ec0c728302b8ca64805d", func := "loop.example/g01922/laws.FnExactStateClasses", spec := "fnExactStateClasses", unfollowed := true, recurses := true, apart := false, narrowed := true }
def FnExactStateClassesUptoSaid : Prop := fnExactStateClassesUptoRow.holds Try.pinned (OpenSpec.upto fnExactStateClassesSpec)

/-- 'laws.FnExactPositionsMatch', WHERE WHAT IT READS IS OF BULK AT MOST 1048576: true; the input reads as it did. -/
def fnExactPositionsMatchUptoRow : OpenClaim := { program := "ytdhadlkeogoiiaa", sum := "63981d1853dbc69bd18a9bff8b9c036408c1c42bcbd6ec0c728302b8ca64805d", func := "loop.example/g01922/laws.FnExactPositionsMatch", spec := "fnExactPositionsMatch", unfollowed := true, recurses := true, apart := false, narrowed := true }
def FnExactPositionsMatchUptoSaid : Prop := fnExactPositionsMatchUptoRow.holds Try.pinned (OpenSpec.upto fnExactPositionsMatchSpec)

/-- 'laws.FnExactCountRuns', WHERE WHAT IT READS IS OF BULK AT MOST 1048576: true; the input reads as it did. -/
def fnExactCountRunsUptoRow : OpenClaim := { program := "ytdhadlkeogoiiaa", sum := "63981d1853dbc69bd18a9bff8b9c036408c1c42bcbd6ec0c728302b8ca64805d", func := "loop.example/g01922/laws.FnExactCountRuns", spec := "fnExactCountRuns", unfollowed := true, recurses := true, apart := false, narrowed := true }
def FnExactCountRunsUptoSaid : Prop := fnExactCountRunsUptoRow.holds Try.pinned (OpenSpec.upto fnExactCountRunsSpec)

end Rows
end Go.Proofs.Ytdhadlkeogoiiaa
