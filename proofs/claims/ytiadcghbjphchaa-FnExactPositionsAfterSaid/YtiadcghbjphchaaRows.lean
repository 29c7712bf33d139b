/-
  No cell of these rows narrows 'for every input' (looked for: loops, veiled, ifaces, maps, wideKeys, modest, calm, conditions, laid).
  DERIVED. THE GIVEN ROWS OF THIS SEAT. 7 by the template 'for every input the law returns true; each argument reads behind the call as it read before'; 0 by the template 'total and deterministic' (their statements: YtiadcghbjphchaaTotals.lean).
  GIVEN WITH THE SEED: the statements are not yours to turn. If you find one false, say at which input.
  Laid BY PROGRAM, IN A SANDBOX (cutbox-rows.mjs): the forced cells as the released guide's own fill.sh prints them over the translation f174561c32693227… (all of the seat's roots in one cut). By AI agents, Wed Nov 11 2026. No macro, syntax, notation, axiom, sorry.
-/
import Derived.Test.YtiadcghbjphchaaChecked
import GoSem.Claim
import GoSem.ClaimJoined
import GoSem.ClaimMapViews
import Derived.JoinedTies
import Derived.KernelRfl
namespace Go.Proofs.Ytiadcghbjphchaa
/- THE CELL 'sum', in the pinned program and in every row, IS THE sha256 OF THE DUMP (.gsa) THAT YtiadcghbjphchaaProg.lean LOADS. Nothing in Lean hashes anything: it is a label: what it is worth is what the hold of that sum in a sandbox is worth. -/
noncomputable def Try.pinned : Pinned := { name := "ytiadcghbjphchaa", sum := "f174561c32693227bc4ba0b6c185e0d06645e5887a4b6e5e6b61b92d97cd5fb4", checked := Try.checked }
namespace Rows
def none {H : Type} : Left H := { results := [], args := [] }

/-- 'laws.FnExactEqualPairs': WHATEVER THE INPUT: true; the input reads as it did. -/
def fnExactEqualPairsSpec : ChangeSpec := { name := "fnExactEqualPairs", fn := fun _ => fun
  | [d1, d2] => { results := [.lit (.bool true)], args := [d1, d2] }
  | _ => none }
def fnExactEqualPairsRow : OpenClaim := { program := "ytiadcghbjphchaa", sum := "f174561c32693227bc4ba0b6c185e0d06645e5887a4b6e5e6b61b92d97cd5fb4", func := "loop.example/g01922/laws.FnExactEqualPairs", spec := "fnExactEqualPairs", apart := false }
def FnExactEqualPairsSaid : Prop := fnExactEqualPairsRow.holds Try.pinned (OpenSpec.ofChange fnExactEqualPairsSpec)

/-- ITS FALSE NEIGHBOUR: 'it returns false'. Refute it at one input. -/
def fnExactEqualPairsWrong : ChangeSpec := { name := "fnExactEqualPairs", fn := fun _ => fun
  | [d1, d2] => { results := [.lit (.bool false)], args := [d1, d2] }
  | _ => none }
def FnExactEqualPairsWrongFalsely : Prop := fnExactEqualPairsRow.holds Try.pinned (OpenSpec.ofChange fnExactEqualPairsWrong)

/-- 'laws.FnExactArePairs': WHATEVER THE INPUT: true; the input reads as it did. -/
def fnExactArePairsSpec : ChangeSpec := { name := "fnExactArePairs", fn := fun _ => fun
  | [d] => { results := [.lit (.bool true)], args := [d] }
  | _ => none }
def fnExactArePairsRow : OpenClaim := { program := "ytiadcghbjphchaa", sum := "f174561c32693227bc4ba0b6c185e0d06645e5887a4b6e5e6b61b92d97cd5fb4", func := "loop.example/g01922/laws.FnExactArePairs", spec := "fnExactArePairs", apart := false }
def FnExactArePairsSaid : Prop := fnExactArePairsRow.holds Try.pinned (OpenSpec.ofChange fnExactArePairsSpec)

/-- ITS FALSE NEIGHBOUR: 'it returns false'. Refute it at one input. -/
def fnExactArePairsWrong : ChangeSpec := { name := "fnExactArePairs", fn := fun _ => fun
  | [d] => { results := [.lit (.bool false)], args := [d] }
  | _ => none }
def FnExactArePairsWrongFalsely : Prop := fnExactArePairsRow.holds Try.pinned (OpenSpec.ofChange fnExactArePairsWrong)

/-- 'laws.FnExactLetterExpr': WHATEVER THE INPUT: true; the input reads as it did. -/
def fnExactLetterExprSpec : ChangeSpec := { name := "fnExactLetterExpr", fn := fun _ => fun
  | [d] => { results := [.lit (.bool true)], args := [d] }
  | _ => none }
def fnExactLetterExprRow : OpenClaim := { program := "ytiadcghbjphchaa", sum := "f174561c32693227bc4ba0b6c185e0d06645e5887a4b6e5e6b61b92d97cd5fb4", func := "loop.example/g01922/laws.FnExactLetterExpr", spec := "fnExactLetterExpr", apart := false }
def FnExactLetterExprSaid : Prop := fnExactLetterExprRow.holds Try.pinned (OpenSpec.ofChange fnExactLetterExprSpec)

/-- ITS FALSE NEIGHBOUR: 'it returns false'. Refute it at one input. -/
def fnExactLetterExprWrong : ChangeSpec := { name := "fnExactLetterExpr", fn := fun _ => fun
  | [d] => { results := [.lit (.bool false)], args := [d] }
  | _ => none }
def FnExactLetterExprWrongFalsely : Prop := fnExactLetterExprRow.holds Try.pinned (OpenSpec.ofChange fnExactLetterExprWrong)

/-- 'laws.FnExactEqualExprs': WHATEVER THE INPUT: true; the input reads as it did. -/
def fnExactEqualExprsSpec : ChangeSpec := { name := "fnExactEqualExprs", fn := fun _ => fun
  | [d1, d2] => { results := [.lit (.bool true)], args := [d1, d2] }
  | _ => none }
def fnExactEqualExprsRow : OpenClaim := { program := "ytiadcghbjphchaa", sum := "f174561c32693227bc4ba0b6c185e0d06645e5887a4b6e5e6b61b92d97cd5fb4", func := "loop.example/g01922/laws.FnExactEqualExprs", spec := "fnExactEqualExprs", apart := false }
def FnExactEqualExprsSaid : Prop := fnExactEqualExprsRow.holds Try.pinned (OpenSpec.ofChange fnExactEqualExprsSpec)

/-- ITS FALSE NEIGHBOUR: 'it returns false'. Refute it at one input. -/
def fnExactEqualExprsWrong : ChangeSpec := { name := "fnExactEqualExprs", fn := fun _ => fun
  | [d1, d2] => { results := [.lit (.bool false)], args := [d1, d2] }
  | _ => none }
def FnExactEqualExprsWrongFalsely : Prop := fnExactEqualExprsRow.holds Try.pinned (OpenSpec.ofChange fnExactEqualExprsWrong)

/-- 'laws.FnExactIsValidPositions': WHATEVER THE INPUT: true; the input reads as it did. -/
def fnExactIsValidPositionsSpec : ChangeSpec := { name := "fnExactIsValidPositions", fn := fun _ => fun
  | [d] => { results := [.lit (.bool true)], args := [d] }
  | _ => none }
def fnExactIsValidPositionsRow : OpenClaim := { program := "ytiadcghbjphchaa", sum := "f174561c32693227bc4ba0b6c185e0d06645e5887a4b6e5e6b61b92d97cd5fb4", func := "loop.example/g01922/laws.FnExactIsValidPositions", spec := "fnExactIsValidPositions", unfollowed := true, recurses := true, apart := false }
def FnExactIsValidPositionsSaid : Prop := fnExactIsValidPositionsRow.holds Try.pinned (OpenSpec.ofChange fnExactIsValidPositionsSpec)

/-- ITS FALSE NEIGHBOUR: 'it returns false'. Refute it at one input. -/
def fnExactIsValidPositionsWrong : ChangeSpec := { name := "fnExactIsValidPositions", fn := fun _ => fun
  | [d] => { results := [.lit (.bool false)], args := [d] }
  | _ => none }
def FnExactIsValidPositionsWrongFalsely : Prop := fnExactIsValidPositionsRow.holds Try.pinned (OpenSpec.ofChange fnExactIsValidPositionsWrong)

/-- 'laws.FnExactAcceptsSet': WHATEVER THE INPUT: true; the input reads as it did. -/
def fnExactAcceptsSetSpec : ChangeSpec := { name := "fnExactAcceptsSet", fn := fun _ => fun
  | [d1, d2] => { results := [.lit (.bool true)], args := [d1, d2] }
  | _ => none }
def fnExactAcceptsSetRow : OpenClaim := { program := "ytiadcghbjphchaa", sum := "f174561c32693227bc4ba0b6c185e0d06645e5887a4b6e5e6b61b92d97cd5fb4", func := "loop.example/g01922/laws.FnExactAcceptsSet", spec := "fnExactAcceptsSet", unfollowed := true, recurses := true, apart := false }
def FnExactAcceptsSetSaid : Prop := fnExactAcceptsSetRow.holds Try.pinned (OpenSpec.ofChange fnExactAcceptsSetSpec)

/-- ITS FALSE NEIGHBOUR: 'it returns false'. Refute it at one input. -/
def fnExactAcceptsSetWrong : ChangeSpec := { name := "fnExactAcceptsSet", fn := fun _ => fun
  | [d1, d2] => { results := [.lit (.bool false)], args := [d1, d2] }
  | _ => none }
def FnExactAcceptsSetWrongFalsely : Prop := fnExactAcceptsSetRow.holds Try.pinned (OpenSpec.ofChange fnExactAcceptsSetWrong)

/-- 'laws.FnExactPositionsAfter': WHATEVER THE INPUT: true; the input reads as it did. -/
def fnExactPositionsAfterSpec : ChangeSpec := { name := "fnExactPositionsAfter", fn := fun _ => fun
  | [d1, d2, d3] => { results := [.lit (.bool true)], args := [d1, d2, d3] }
  | _ => none }
def fnExactPositionsAfterRow : OpenClaim := { program := "ytiadcghbjphchaa", sum := "f174561c32693227bc4ba0b6c185e0d06645e5887a4b6e5e6b61b92d97cd5fb4", func := "loop.example/g01922/laws.FnExactPositionsAfter", spec := "fnExactPositionsAfter", unfollowed := true, recurses := true, apart := false }
def FnExactPositionsAfterSaid : Prop := fnExactPositionsAfterRow.holds Try.pinned (OpenSpec.ofChange fnExactPositionsAfterSpec)

/-- ITS FALSE NEIGHBOUR: 'it returns false'. Refute it at one input. -/
def fnExactPositionsAfterWrong : ChangeSpec := { name := "fnExactPositionsAfter", fn := fun _ => fun
  | [d1, d2, d3] => { results := [.lit (.bool false)], args := [d1, d2, d3] }
  | _ => none }
def FnExactPositionsAfterWrongFalsely : Prop := fnExactPositionsAfterRow.holds Try.pinned (OpenSpec.ofChange fnExactPositionsAfterWrong)

/- THE SECOND FORM. 'bulk': how many values and letters a reading holds, each counted each time it is reached (what is shared counts as often as it is met; a slice's spare places count too). A statement '..UptoSaid' is the law's where the arguments, and the package variables that the reading takes, are together of bulk at most 1048576: NARROWER than '..Said'. Prove '..Said' where nothing that the law and all that it calls make is longer than what came in: it says more and counts as full. Else prove '..UptoSaid'. A law counts once. -/
mutual
def uptoBulk {H : Type} : DataW H → Nat
  | .lit (.string bytes) => bytes.length + 1
  | .lit _ => 1
  | .nil => 1
  | .ptr d => uptoBulk d + 1
  | .slice elems spare => uptoBulkAll elems + uptoBulkAll spare + 1
  | .agg parts => uptoBulkAll parts + 1
  | .iface _ d => uptoBulk d + 1
  | .map entries => uptoBulkEntries entries + 1
  | .held _ => 1
def uptoBulkAll {H : Type} : List (DataW H) → Nat
  | [] => 0
  | d :: r => uptoBulk d + uptoBulkAll r
def uptoBulkEntries {H : Type} : List (Lit × DataW H) → Nat
  | [] => 0
  | x :: r => uptoBulkEntry x + uptoBulkEntries r
def uptoBulkEntry {H : Type} : Lit × DataW H → Nat
  | (.string bytes, d) => bytes.length + uptoBulk d + 1
  | (_, d) => uptoBulk d + 1
 end
def uptoSmall : (H : Type) → List (DataW H) → Bool := fun _ ds => decide (uptoBulkAll ds ≤ 1048576)
def OpenSpec.upto (s : _root_.Go.ChangeSpec) : _root_.Go.OpenSpec := { _root_.Go.OpenSpec.ofChange s with cond := some uptoSmall }

/-- 'laws.FnExactEqualPairs', WHERE WHAT IT READS IS OF BULK AT MOST 1048576: true; the input reads as it did. -/
def fnExactEqualPairsUptoRow : OpenClaim := { program := "ytiadcghbjphchaa", sum := "f174561c32693227bc4ba0b6c185e0d06645e5887a4b6e5e6b61b92d97cd5fb4", func := "loop.example/g01922/laws.FnExactEqualPairs", spec := "fnExactEqualPairs", apart := false, narrowed := true }
def FnExactEqualPairsUptoSaid : Prop := fnExactEqualPairsUptoRow.holds Try.pinned (OpenSpec.upto fnExactEqualPairsSpec)

/-- 'laws.FnExactArePairs', WHERE WHAT IT READS IS OF BULK AT MOST 1048576: true; the input reads as it did. -/
def fnExactArePairsUptoRow : OpenClaim := { program := "ytiadcghbjphchaa", sum := "f174561c32693227bc4ba0b6c185e0d06645e5887a4b6e5e6b61b92d97cd5fb4", func := "loop.example/g01922/laws.FnExactArePairs", spec := "fnExactArePairs", apart := false, narrowed := true }
def FnExactArePairsUptoSaid : Prop := fnExactArePairsUptoRow.holds Try.pinned (OpenSpec.upto fnExactArePairsSpec)

/-- 'laws.FnExactLetterExpr', WHERE WHAT IT READS IS OF BULK AT MOST 1048576: true; the input reads as it did. -/
def fnExactLetterExprUptoRow : OpenClaim := { program := "ytiadcghbjphchaa", sum := "f174561c32693227bc4ba0b6c185e0d06645e5887a4b6e5e6b61b92d97cd5fb4", func := "loop.example/g01922/laws.FnExactLetterExpr", spec := "fnExactLetterExpr", apart := false, narrowed := true }
def FnExactLetterExprUptoSaid : Prop := fnExactLetterExprUptoRow.holds Try.pinned (OpenSpec.upto fnExactLetterExprSpec)

/-- 'laws.FnExactEqualExprs', WHERE WHAT IT READS IS OF BULK AT MOST 1048576: true; the input reads as it did. -/
def fnExactEqualExprsUptoRow : OpenClaim := { program := "ytiadcghbjphchaa", sum := "f174561c32693227bc4ba0b6c185e0d06645e5887a4b6e5e6b61b92d97cd5fb4", func := "loop.example/g01922/laws.FnExactEqualExprs", spec := "fnExactEqualExprs", apart := false, narrowed := true }
def FnExactEqualExprsUptoSaid : Prop := fnExactEqualExprsUptoRow.holds Try.pinned (OpenSpec.upto fnExactEqualExprsSpec)

/-- 'laws.FnExactIsValidPositions', WHERE WHAT IT READS IS OF BULK AT MOST 1048576: true; the input reads as it did. -/
def fnExactIsValidPositionsUptoRow : OpenClaim := { program := "ytiadcghbjphchaa", sum := "f174561c32693227bc4ba0b6c185e0d06645e5887a4b6e5e6b61b92d97cd5fb4", func := "loop.example/g01922/laws.FnExactIsValidPositions", spec := "fnExactIsValidPositions", unfollowed := true, recurses := true, apart := false, narrowed := true }
def FnExactIsValidPositionsUptoSaid : Prop := fnExactIsValidPositionsUptoRow.holds Try.pinned (OpenSpec.upto fnExactIsValidPositionsSpec)

/-- 'laws.FnExactAcceptsSet', WHERE WHAT IT READS IS OF BULK AT MOST 1048576: true; the input reads as it did. -/
def fnExactAcceptsSetUptoRow : OpenClaim := { program := "ytiadcghbjphchaa", sum := "f174561c32693227bc4ba0b6c185e0d06645e5887a4b6e5e6b61b92d97cd5fb4", func := "loop.example/g01922/laws.FnExactAcceptsSet", spec := "fnExactAcceptsSet", unfollowed := true, recurses := true, apart := false, narrowed := true }
def FnExactAcceptsSetUptoSaid : Prop := fnExactAcceptsSetUptoRow.holds Try.pinned (OpenSpec.upto fnExactAcceptsSetSpec)

/-- 'laws.FnExactPositionsAfter', WHERE WHAT IT READS IS OF BULK AT MOST 1048576: true; the input reads as it did. -/
def fnExactPositionsAfterUptoRow : OpenClaim := { program := "ytiadcghbjphchaa", sum := "f174561c32693227bc4ba0b6c185e0d06645e5887a4b6e5e6b61b92d97cd5fb4", func := "loop.example/g01922/laws.FnExactPositionsAfter", spec := "fnExactPositionsAfter", unfollowed := true, recurses := true, apart := false, narrowed := true }
def FnExactPositionsAfterUptoSaid : Prop := fnExactPositionsAfterUptoRow.holds Try.pinned (OpenSpec.upto fnExactPositionsAfterSpec)

end Rows
end Go.Proofs.Ytiadcghbjphchaa
