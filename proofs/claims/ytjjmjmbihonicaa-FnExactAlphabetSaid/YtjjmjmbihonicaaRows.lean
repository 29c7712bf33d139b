/-
  No cell of these rows narrows 'for every input' (looked for: loops, veiled, ifaces, maps, wideKeys, modest, calm, conditions, laid).
  DERIVED. THE GIVEN ROWS OF THIS SEAT. 11 by the template 'for every input the law returns true; each argument reads behind the call as it read before'; 0 by the template 'total and deterministic' (their statements: YtjjmjmbihonicaaTotals.lean).
  GIVEN WITH THE SEED: the statements are not yours to turn. If you find one false, say at which input.
  Laid BY PROGRAM, IN A SANDBOX (cutbox-rows.mjs): the forced cells as the released guide's own fill.sh prints them over the translation 1d9ee905f52dcf3a… (all of the seat's roots in one cut). By AI agents, Wed Nov 11 2026. No macro, syntax, notation, axiom, sorry.
-/
import Derived.Test.YtjjmjmbihonicaaChecked
import GoSem.Claim
import GoSem.ClaimJoined
import GoSem.ClaimMapViews
import Derived.JoinedTies
import Derived.KernelRfl
namespace Go.Proofs.Ytjjmjmbihonicaa
/- THE CELL 'sum', in the pinned program and in every row, IS THE sha256 OF THE DUMP (.gsa) THAT YtjjmjmbihonicaaProg.lean LOADS. Nothing in Lean hashes anything: it is a label: what it is worth is what the hold of that sum in a sandbox is worth. -/
noncomputable def Try.pinned : Pinned := { name := "ytjjmjmbihonicaa", sum := "1d9ee905f52dcf3a2cbdad45b0d0a99d78d82c12ad97d7a1d90c8c45653ab249", checked := Try.checked }
namespace Rows
def none {H : Type} : Left H := { results := [], args := [] }

/-- 'laws.FnExactIsExpr': WHATEVER THE INPUT: true; the input reads as it did. -/
def fnExactIsExprSpec : ChangeSpec := { name := "fnExactIsExpr", fn := fun _ => fun
  | [d] => { results := [.lit (.bool true)], args := [d] }
  | _ => none }
def fnExactIsExprRow : OpenClaim := { program := "ytjjmjmbihonicaa", sum := "1d9ee905f52dcf3a2cbdad45b0d0a99d78d82c12ad97d7a1d90c8c45653ab249", func := "loop.example/g01922/laws.FnExactIsExpr", spec := "fnExactIsExpr", apart := false }
def FnExactIsExprSaid : Prop := fnExactIsExprRow.holds Try.pinned (OpenSpec.ofChange fnExactIsExprSpec)

/-- ITS FALSE NEIGHBOUR: 'it returns false'. Refute it at one input. -/
def fnExactIsExprWrong : ChangeSpec := { name := "fnExactIsExpr", fn := fun _ => fun
  | [d] => { results := [.lit (.bool false)], args := [d] }
  | _ => none }
def FnExactIsExprWrongFalsely : Prop := fnExactIsExprRow.holds Try.pinned (OpenSpec.ofChange fnExactIsExprWrong)

/-- 'laws.FnExactIsValidExpr': WHATEVER THE INPUT: true; the input reads as it did. -/
def fnExactIsValidExprSpec : ChangeSpec := { name := "fnExactIsValidExpr", fn := fun _ => fun
  | [d] => { results := [.lit (.bool true)], args := [d] }
  | _ => none }
def fnExactIsValidExprRow : OpenClaim := { program := "ytjjmjmbihonicaa", sum := "1d9ee905f52dcf3a2cbdad45b0d0a99d78d82c12ad97d7a1d90c8c45653ab249", func := "loop.example/g01922/laws.FnExactIsValidExpr", spec := "fnExactIsValidExpr", apart := false }
def FnExactIsValidExprSaid : Prop := fnExactIsValidExprRow.holds Try.pinned (OpenSpec.ofChange fnExactIsValidExprSpec)

/-- ITS FALSE NEIGHBOUR: 'it returns false'. Refute it at one input. -/
def fnExactIsValidExprWrong : ChangeSpec := { name := "fnExactIsValidExpr", fn := fun _ => fun
  | [d] => { results := [.lit (.bool false)], args := [d] }
  | _ => none }
def FnExactIsValidExprWrongFalsely : Prop := fnExactIsValidExprRow.holds Try.pinned (OpenSpec.ofChange fnExactIsValidExprWrong)

/-- 'laws.FnExactNullable': WHATEVER THE INPUT: true; the input reads as it did. -/
def fnExactNullableSpec : ChangeSpec := { name := "fnExactNullable", fn := fun _ => fun
  | [d] => { results := [.lit (.bool true)], args := [d] }
  | _ => none }
def fnExactNullableRow : OpenClaim := { program := "ytjjmjmbihonicaa", sum := "1d9ee905f52dcf3a2cbdad45b0d0a99d78d82c12ad97d7a1d90c8c45653ab249", func := "loop.example/g01922/laws.FnExactNullable", spec := "fnExactNullable", recurses := true, apart := false }
def FnExactNullableSaid : Prop := fnExactNullableRow.holds Try.pinned (OpenSpec.ofChange fnExactNullableSpec)

/-- ITS FALSE NEIGHBOUR: 'it returns false'. Refute it at one input. -/
def fnExactNullableWrong : ChangeSpec := { name := "fnExactNullable", fn := fun _ => fun
  | [d] => { results := [.lit (.bool false)], args := [d] }
  | _ => none }
def FnExactNullableWrongFalsely : Prop := fnExactNullableRow.holds Try.pinned (OpenSpec.ofChange fnExactNullableWrong)

/-- 'laws.FnExactSplitExpr': WHATEVER THE INPUT: true; the input reads as it did. -/
def fnExactSplitExprSpec : ChangeSpec := { name := "fnExactSplitExpr", fn := fun _ => fun
  | [d] => { results := [.lit (.bool true)], args := [d] }
  | _ => none }
def fnExactSplitExprRow : OpenClaim := { program := "ytjjmjmbihonicaa", sum := "1d9ee905f52dcf3a2cbdad45b0d0a99d78d82c12ad97d7a1d90c8c45653ab249", func := "loop.example/g01922/laws.FnExactSplitExpr", spec := "fnExactSplitExpr", recurses := true, apart := false }
def FnExactSplitExprSaid : Prop := fnExactSplitExprRow.holds Try.pinned (OpenSpec.ofChange fnExactSplitExprSpec)

/-- ITS FALSE NEIGHBOUR: 'it returns false'. Refute it at one input. -/
def fnExactSplitExprWrong : ChangeSpec := { name := "fnExactSplitExpr", fn := fun _ => fun
  | [d] => { results := [.lit (.bool false)], args := [d] }
  | _ => none }
def FnExactSplitExprWrongFalsely : Prop := fnExactSplitExprRow.holds Try.pinned (OpenSpec.ofChange fnExactSplitExprWrong)

/-- 'laws.FnExactReverseExpr': WHATEVER THE INPUT: true; the input reads as it did. -/
def fnExactReverseExprSpec : ChangeSpec := { name := "fnExactReverseExpr", fn := fun _ => fun
  | [d] => { results := [.lit (.bool true)], args := [d] }
  | _ => none }
def fnExactReverseExprRow : OpenClaim := { program := "ytjjmjmbihonicaa", sum := "1d9ee905f52dcf3a2cbdad45b0d0a99d78d82c12ad97d7a1d90c8c45653ab249", func := "loop.example/g01922/laws.FnExactReverseExpr", spec := "fnExactReverseExpr", recurses := true, apart := false }
def FnExactReverseExprSaid : Prop := fnExactReverseExprRow.holds Try.pinned (OpenSpec.ofChange fnExactReverseExprSpec)

/-- ITS FALSE NEIGHBOUR: 'it returns false'. Refute it at one input. -/
def fnExactReverseExprWrong : ChangeSpec := { name := "fnExactReverseExpr", fn := fun _ => fun
  | [d] => { results := [.lit (.bool false)], args := [d] }
  | _ => none }
def FnExactReverseExprWrongFalsely : Prop := fnExactReverseExprRow.holds Try.pinned (OpenSpec.ofChange fnExactReverseExprWrong)

/-- 'laws.FnExactDerivative': WHATEVER THE INPUT: true; the input reads as it did. -/
def fnExactDerivativeSpec : ChangeSpec := { name := "fnExactDerivative", fn := fun _ => fun
  | [d1, d2] => { results := [.lit (.bool true)], args := [d1, d2] }
  | _ => none }
def fnExactDerivativeRow : OpenClaim := { program := "ytjjmjmbihonicaa", sum := "1d9ee905f52dcf3a2cbdad45b0d0a99d78d82c12ad97d7a1d90c8c45653ab249", func := "loop.example/g01922/laws.FnExactDerivative", spec := "fnExactDerivative", recurses := true, apart := false }
def FnExactDerivativeSaid : Prop := fnExactDerivativeRow.holds Try.pinned (OpenSpec.ofChange fnExactDerivativeSpec)

/-- ITS FALSE NEIGHBOUR: 'it returns false'. Refute it at one input. -/
def fnExactDerivativeWrong : ChangeSpec := { name := "fnExactDerivative", fn := fun _ => fun
  | [d1, d2] => { results := [.lit (.bool false)], args := [d1, d2] }
  | _ => none }
def FnExactDerivativeWrongFalsely : Prop := fnExactDerivativeRow.holds Try.pinned (OpenSpec.ofChange fnExactDerivativeWrong)

/-- 'laws.FnExactDerivativeWord': WHATEVER THE INPUT: true; the input reads as it did. -/
def fnExactDerivativeWordSpec : ChangeSpec := { name := "fnExactDerivativeWord", fn := fun _ => fun
  | [d1, d2] => { results := [.lit (.bool true)], args := [d1, d2] }
  | _ => none }
def fnExactDerivativeWordRow : OpenClaim := { program := "ytjjmjmbihonicaa", sum := "1d9ee905f52dcf3a2cbdad45b0d0a99d78d82c12ad97d7a1d90c8c45653ab249", func := "loop.example/g01922/laws.FnExactDerivativeWord", spec := "fnExactDerivativeWord", recurses := true, apart := false }
def FnExactDerivativeWordSaid : Prop := fnExactDerivativeWordRow.holds Try.pinned (OpenSpec.ofChange fnExactDerivativeWordSpec)

/-- ITS FALSE NEIGHBOUR: 'it returns false'. Refute it at one input. -/
def fnExactDerivativeWordWrong : ChangeSpec := { name := "fnExactDerivativeWord", fn := fun _ => fun
  | [d1, d2] => { results := [.lit (.bool false)], args := [d1, d2] }
  | _ => none }
def FnExactDerivativeWordWrongFalsely : Prop := fnExactDerivativeWordRow.holds Try.pinned (OpenSpec.ofChange fnExactDerivativeWordWrong)

/-- 'laws.FnExactExpandExpr': WHATEVER THE INPUT: true; the input reads as it did. -/
def fnExactExpandExprSpec : ChangeSpec := { name := "fnExactExpandExpr", fn := fun _ => fun
  | [d] => { results := [.lit (.bool true)], args := [d] }
  | _ => none }
def fnExactExpandExprRow : OpenClaim := { program := "ytjjmjmbihonicaa", sum := "1d9ee905f52dcf3a2cbdad45b0d0a99d78d82c12ad97d7a1d90c8c45653ab249", func := "loop.example/g01922/laws.FnExactExpandExpr", spec := "fnExactExpandExpr", recurses := true, apart := false }
def FnExactExpandExprSaid : Prop := fnExactExpandExprRow.holds Try.pinned (OpenSpec.ofChange fnExactExpandExprSpec)

/-- ITS FALSE NEIGHBOUR: 'it returns false'. Refute it at one input. -/
def fnExactExpandExprWrong : ChangeSpec := { name := "fnExactExpandExpr", fn := fun _ => fun
  | [d] => { results := [.lit (.bool false)], args := [d] }
  | _ => none }
def FnExactExpandExprWrongFalsely : Prop := fnExactExpandExprRow.holds Try.pinned (OpenSpec.ofChange fnExactExpandExprWrong)

/-- 'laws.FnExactMatchesWord': WHATEVER THE INPUT: true; the input reads as it did. -/
def fnExactMatchesWordSpec : ChangeSpec := { name := "fnExactMatchesWord", fn := fun _ => fun
  | [d1, d2] => { results := [.lit (.bool true)], args := [d1, d2] }
  | _ => none }
def fnExactMatchesWordRow : OpenClaim := { program := "ytjjmjmbihonicaa", sum := "1d9ee905f52dcf3a2cbdad45b0d0a99d78d82c12ad97d7a1d90c8c45653ab249", func := "loop.example/g01922/laws.FnExactMatchesWord", spec := "fnExactMatchesWord", recurses := true, apart := false }
def FnExactMatchesWordSaid : Prop := fnExactMatchesWordRow.holds Try.pinned (OpenSpec.ofChange fnExactMatchesWordSpec)

/-- ITS FALSE NEIGHBOUR: 'it returns false'. Refute it at one input. -/
def fnExactMatchesWordWrong : ChangeSpec := { name := "fnExactMatchesWord", fn := fun _ => fun
  | [d1, d2] => { results := [.lit (.bool false)], args := [d1, d2] }
  | _ => none }
def FnExactMatchesWordWrongFalsely : Prop := fnExactMatchesWordRow.holds Try.pinned (OpenSpec.ofChange fnExactMatchesWordWrong)

/-- 'laws.FnExactAlphabet': WHATEVER THE INPUT: true; the input reads as it did. -/
def fnExactAlphabetSpec : ChangeSpec := { name := "fnExactAlphabet", fn := fun _ => fun
  | [d] => { results := [.lit (.bool true)], args := [d] }
  | _ => none }
def fnExactAlphabetRow : OpenClaim := { program := "ytjjmjmbihonicaa", sum := "1d9ee905f52dcf3a2cbdad45b0d0a99d78d82c12ad97d7a1d90c8c45653ab249", func := "loop.example/g01922/laws.FnExactAlphabet", spec := "fnExactAlphabet", recurses := true, apart := false }
def FnExactAlphabetSaid : Prop := fnExactAlphabetRow.holds Try.pinned (OpenSpec.ofChange fnExactAlphabetSpec)

/-- ITS FALSE NEIGHBOUR: 'it returns false'. Refute it at one input. -/
def fnExactAlphabetWrong : ChangeSpec := { name := "fnExactAlphabet", fn := fun _ => fun
  | [d] => { results := [.lit (.bool false)], args := [d] }
  | _ => none }
def FnExactAlphabetWrongFalsely : Prop := fnExactAlphabetRow.holds Try.pinned (OpenSpec.ofChange fnExactAlphabetWrong)

/-- 'laws.FnExactBuildPositions': WHATEVER THE INPUT: true; the input reads as it did. -/
def fnExactBuildPositionsSpec : ChangeSpec := { name := "fnExactBuildPositions", fn := fun _ => fun
  | [d] => { results := [.lit (.bool true)], args := [d] }
  | _ => none }
def fnExactBuildPositionsRow : OpenClaim := { program := "ytjjmjmbihonicaa", sum := "1d9ee905f52dcf3a2cbdad45b0d0a99d78d82c12ad97d7a1d90c8c45653ab249", func := "loop.example/g01922/laws.FnExactBuildPositions", spec := "fnExactBuildPositions", recurses := true, apart := false }
def FnExactBuildPositionsSaid : Prop := fnExactBuildPositionsRow.holds Try.pinned (OpenSpec.ofChange fnExactBuildPositionsSpec)

/-- ITS FALSE NEIGHBOUR: 'it returns false'. Refute it at one input. -/
def fnExactBuildPositionsWrong : ChangeSpec := { name := "fnExactBuildPositions", fn := fun _ => fun
  | [d] => { results := [.lit (.bool false)], args := [d] }
  | _ => none }
def FnExactBuildPositionsWrongFalsely : Prop := fnExactBuildPositionsRow.holds Try.pinned (OpenSpec.ofChange fnExactBuildPositionsWrong)

/- THE SECOND FORM. 'bulk': how many values and letters a reading holds, each counted each time it is reached (what is shared counts as often as it is met; a slice's spare places count too). A statement '..UptoSaid' is the law's where the arguments, and the package variables that the reading takes, are together of bulk at most 1048576: NARROWER than '..Said'. Prove '..Said' where nothing that the law and all that it calls make is longer than what came in: it says more and counts as full. Else prove '..UptoSaid'. A law counts once. -/
mutual
def uptoBulk {H : Type} : DataW H → Nat
  | .lit (.string bytes) => bytes.length + 1
  | .lit _ => 1
  | .nil => 1
  | .ptr d => uptoBulk d + 1
  | .slice elems spare => uptoBulkAll elems + uptoBulkAll spare + 1
  | .agg parts => uptoBulkAll parts + 1
  | .iface _ d => uptoBulk d + 1
  | .map entries => uptoBulkEntries entries + 1
  | .held _ => 1
def uptoBulkAll {H : Type} : List (DataW H) → Nat
  | [] => 0
  | d :: r => uptoBulk d + uptoBulkAll r
def uptoBulkEntries {H : Type} : List (Lit × DataW H) → Nat
  | [] => 0
  | x :: r => uptoBulkEntry x + uptoBulkEntries r
def uptoBulkEntry {H : Type} : Lit × DataW H → Nat
  | (.string bytes, d) => bytes.length + uptoBulk d + 1
  | (_, d) => uptoBulk d + 1
 end
def uptoSmall : (H : Type) → List (DataW H) → Bool := fun _ ds => decide (uptoBulkAll ds ≤ 1048576)
def OpenSpec.upto (s : _root_.Go.ChangeSpec) : _root_.Go.OpenSpec := { _root_.Go.OpenSpec.ofChange s with cond := some uptoSmall }

/-- 'laws.FnExactIsExpr', WHERE WHAT IT READS IS OF BULK AT MOST 1048576: true; the input reads as it did. -/
def fnExactIsExprUptoRow : OpenClaim := { program := "ytjjmjmbihonicaa", sum := "1d9ee905f52dcf3a2cbdad45b0d0a99d78d82c12ad97d7a1d90c8c45653ab249", func := "loop.example/g01922/laws.FnExactIsExpr", spec := "fnExactIsExpr", apart := false, narrowed := true }
def FnExactIsExprUptoSaid : Prop := fnExactIsExprUptoRow.holds Try.pinned (OpenSpec.upto fnExactIsExprSpec)

/-- 'laws.FnExactIsValidExpr', WHERE WHAT IT READS IS OF BULK AT MOST 1048576: true; the input reads as it did. -/
def fnExactIsValidExprUptoRow : OpenClaim := { program := "ytjjmjmbihonicaa", sum := "1d9ee905f52dcf3a2cbdad45b0d0a99d78d82c12ad97d7a1d90c8c45653ab249", func := "loop.example/g01922/laws.FnExactIsValidExpr", spec := "fnExactIsValidExpr", apart := false, narrowed := true }
def FnExactIsValidExprUptoSaid : Prop := fnExactIsValidExprUptoRow.holds Try.pinned (OpenSpec.upto fnExactIsValidExprSpec)

/-- 'laws.FnExactNullable', WHERE WHAT IT READS IS OF BULK AT MOST 1048576: true; the input reads as it did. -/
def fnExactNullableUptoRow : OpenClaim := { program := "ytjjmjmbihonicaa", sum := "1d9ee905f52dcf3a2cbdad45b0d0a99d78d82c12ad97d7a1d90c8c45653ab249", func := "loop.example/g01922/laws.FnExactNullable", spec := "fnExactNullable", recurses := true, apart := false, narrowed := true }
def FnExactNullableUptoSaid : Prop := fnExactNullableUptoRow.holds Try.pinned (OpenSpec.upto fnExactNullableSpec)

/-- 'laws.FnExactSplitExpr', WHERE WHAT IT READS IS OF BULK AT MOST 1048576: true; the input reads as it did. -/
def fnExactSplitExprUptoRow : OpenClaim := { program := "ytjjmjmbihonicaa", sum := "1d9ee905f52dcf3a2cbdad45b0d0a99d78d82c12ad97d7a1d90c8c45653ab249", func := "loop.example/g01922/laws.FnExactSplitExpr", spec := "fnExactSplitExpr", recurses := true, apart := false, narrowed := true }
def FnExactSplitExprUptoSaid : Prop := fnExactSplitExprUptoRow.holds Try.pinned (OpenSpec.upto fnExactSplitExprSpec)

/-- 'laws.FnExactReverseExpr', WHERE WHAT IT READS IS OF BULK AT MOST 1048576: true; the input reads as it did. -/
def fnExactReverseExprUptoRow : OpenClaim := { program := "ytjjmjmbihonicaa", sum := "1d9ee905f52dcf3a2cbdad45b0d0a99d78d82c12ad97d7a1d90c8c45653ab249", func := "loop.example/g01922/laws.FnExactReverseExpr", spec := "fnExactReverseExpr", recurses := true, apart := false, narrowed := true }
def FnExactReverseExprUptoSaid : Prop := fnExactReverseExprUptoRow.holds Try.pinned (OpenSpec.upto fnExactReverseExprSpec)

/-- 'laws.FnExactDerivative', WHERE WHAT IT READS IS OF BULK AT MOST 1048576: true; the input reads as it did. -/
def fnExactDerivativeUptoRow : OpenClaim := { program := "ytjjmjmbihonicaa", sum := "1d9ee905f52dcf3a2cbdad45b0d0a99d78d82c12ad97d7a1d90c8c45653ab249", func := "loop.example/g01922/laws.FnExactDerivative", spec := "fnExactDerivative", recurses := true, apart := false, narrowed := true }
def FnExactDerivativeUptoSaid : Prop := fnExactDerivativeUptoRow.holds Try.pinned (OpenSpec.upto fnExactDerivativeSpec)

/-- 'laws.FnExactDerivativeWord', WHERE WHAT IT READS IS OF BULK AT MOST 1048576: true; the input reads as it did. -/
def fnExactDerivativeWordUptoRow : OpenClaim := { program := "ytjjmjmbihonicaa", sum := "1d9ee905f52dcf3a2cbdad45b0d0a99d78d82c12ad97d7a1d90c8c45653ab249", func := "loop.example/g01922/laws.FnExactDerivativeWord", spec := "fnExactDerivativeWord", recurses := true, apart := false, narrowed := true }
def FnExactDerivativeWordUptoSaid : Prop := fnExactDerivativeWordUptoRow.holds Try.pinned (OpenSpec.upto fnExactDerivativeWordSpec)

/-- 'laws.FnExactExpandExpr', WHERE WHAT IT READS IS OF BULK AT MOST 1048576: true; the input reads as it did. -/
def fnExactExpandExprUptoRow : OpenClaim := { program := "ytjjmjmbihonicaa", sum := "1d9ee905f52dcf3a2cbdad45b0d0a99d78d82c12ad97d7a1d90c8c45653ab249", func := "loop.example/g01922/laws.FnExactExpandExpr", spec := "fnExactExpandExpr", recurses := true, apart := false, narrowed := true }
def FnExactExpandExprUptoSaid : Prop := fnExactExpandExprUptoRow.holds Try.pinned (OpenSpec.upto fnExactExpandExprSpec)

/-- 'laws.FnExactMatchesWord', WHERE WHAT IT READS IS OF BULK AT MOST 1048576: true; the input reads as it did. -/
def fnExactMatchesWordUptoRow : OpenClaim := { program := "ytjjmjmbihonicaa", sum := "1d9ee905f52dcf3a2cbdad45b0d0a99d78d82c12ad97d7a1d90c8c45653ab249", func := "loop.example/g01922/laws.FnExactMatchesWord", spec := "fnExactMatchesWord", recurses := true, apart := false, narrowed := true }
def FnExactMatchesWordUptoSaid : Prop := fnExactMatchesWordUptoRow.holds Try.pinned (OpenSpec.upto fnExactMatchesWordSpec)

/-- 'laws.FnExactAlphabet', WHERE WHAT IT READS IS OF BULK AT MOST 1048576: true; the input reads as it did. -/
def fnExactAlphabetUptoRow : OpenClaim := { program := "ytjjmjmbihonicaa", sum := "1d9ee905f52dcf3a2cbdad45b0d0a99d78d82c12ad97d7a1d90c8c45653ab249", func := "loop.example/g01922/laws.FnExactAlphabet", spec := "fnExactAlphabet", recurses := true, apart := false, narrowed := true }
def FnExactAlphabetUptoSaid : Prop := fnExactAlphabetUptoRow.holds Try.pinned (OpenSpec.upto fnExactAlphabetSpec)

/-- 'laws.FnExactBuildPositions', WHERE WHAT IT READS IS OF BULK AT MOST 1048576: true; the input reads as it did. -/
def fnExactBuildPositionsUptoRow : OpenClaim := { program := "ytjjmjmbihonicaa", sum := "1d9ee905f52dcf3a2cbdad45b0d0a99d78d82c12ad97d7a1d90c8c45653ab249", func := "loop.example/g01922/laws.FnExactBuildPositions", spec := "fnExactBuildPositions", recurses := true, apart := false, narrowed := true }
def FnExactBuildPositionsUptoSaid : Prop := fnExactBuildPositionsUptoRow.holds Try.pinned (OpenSpec.upto fnExactBuildPositionsSpec)

end Rows
end Go.Proofs.Ytjjmjmbihonicaa
