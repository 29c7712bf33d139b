/-
  No cell of these rows narrows 'for every input' (looked for: loops, veiled, ifaces, maps, wideKeys, modest, calm, conditions, laid).
  DERIVED. THE GIVEN ROWS OF THIS SEAT. 3 by the template 'for every input the law returns true; each argument reads behind the call as it read before'; 0 by the template 'total and deterministic' (their statements: YtgnlfnkgkcmdjaaTotals.lean).
  GIVEN WITH THE SEED: the statements are not yours to turn. If you find one false, say at which input.
  Laid BY PROGRAM, IN A SANDBOX (cutbox-rows.mjs): the forced cells as the released guide's own fill.sh prints them over the translation f94cc59e9ce4566a… (all of the seat's roots in one cut). By AI agents, Wed Nov 11 2026. No macro, syntax, notation, axiom, sorry.
-/
import Derived.Test.YtgnlfnkgkcmdjaaChecked
import GoSem.Claim
import GoSem.ClaimJoined
import GoSem.ClaimMapViews
import Derived.JoinedTies
import Derived.KernelRfl
namespace Go.Proofs.Ytgnlfnkgkcmdjaa
/- THE CELL 'sum', in the pinned program and in every row, IS THE sha256 OF THE DUMP (.gsa) THAT YtgnlfnkgkcmdjaaProg.lean LOADS. Nothing in Lean hashes anything: it is a label: what it is worth is what the hold of that sum in a sandbox is worth. -/
noncomputable def Try.pinned : Pinned := { name := "ytgnlfnkgkcmdjaa", sum := "f94cc59e9ce4566ae4d57c8c01f775fbdc00470655ff24dc8ecce962e515dd5d", checked := Try.checked }
namespace Rows
def none {H : Type} : Left H := { results := [], args := [] }

/-- 'laws.FnMinimal': WHATEVER THE INPUT: true; the input reads as it did. -/
def fnMinimalSpec : ChangeSpec := { name := "fnMinimal", fn := fun _ => fun
  | [d] => { results := [.lit (.bool true)], args := [d] }
  | _ => none }
def fnMinimalRow : OpenClaim := { program := "ytgnlfnkgkcmdjaa", sum := "f94cc59e9ce4566ae4d57c8c01f775fbdc00470655ff24dc8ecce962e515dd5d", func := "loop.example/g01922/laws.FnMinimal", spec := "fnMinimal", unfollowed := true, recurses := true, plainKeys := false, apart := false }
def FnMinimalSaid : Prop := fnMinimalRow.holds Try.pinned (OpenSpec.ofChange fnMinimalSpec)

/-- ITS FALSE NEIGHBOUR: 'it returns false'. Refute it at one input. -/
def fnMinimalWrong : ChangeSpec := { name := "fnMinimal", fn := fun _ => fun
  | [d] => { results := [.lit (.bool false)], args := [d] }
  | _ => none }
def FnMinimalWrongFalsely : Prop := fnMinimalRow.holds Try.pinned (OpenSpec.ofChange fnMinimalWrong)

/-- 'laws.FnMissingWord': WHATEVER THE INPUT: true; the input reads as it did. -/
def fnMissingWordSpec : ChangeSpec := { name := "fnMissingWord", fn := fun _ => fun
  | [d] => { results := [.lit (.bool true)], args := [d] }
  | _ => none }
def fnMissingWordRow : OpenClaim := { program := "ytgnlfnkgkcmdjaa", sum := "f94cc59e9ce4566ae4d57c8c01f775fbdc00470655ff24dc8ecce962e515dd5d", func := "loop.example/g01922/laws.FnMissingWord", spec := "fnMissingWord", unfollowed := true, recurses := true, plainKeys := false, apart := false }
def FnMissingWordSaid : Prop := fnMissingWordRow.holds Try.pinned (OpenSpec.ofChange fnMissingWordSpec)

/-- ITS FALSE NEIGHBOUR: 'it returns false'. Refute it at one input. -/
def fnMissingWordWrong : ChangeSpec := { name := "fnMissingWord", fn := fun _ => fun
  | [d] => { results := [.lit (.bool false)], args := [d] }
  | _ => none }
def FnMissingWordWrongFalsely : Prop := fnMissingWordRow.holds Try.pinned (OpenSpec.ofChange fnMissingWordWrong)

/-- 'laws.FnPositions': WHATEVER THE INPUT: true; the input reads as it did. -/
def fnPositionsSpec : ChangeSpec := { name := "fnPositions", fn := fun _ => fun
  | [d] => { results := [.lit (.bool true)], args := [d] }
  | _ => none }
def fnPositionsRow : OpenClaim := { program := "ytgnlfnkgkcmdjaa", sum := "f94cc59e9ce4566ae4d57c8c01f775fbdc00470655ff24dc8ecce962e515dd5d", func := "loop.example/g01922/laws.FnPositions", spec := "fnPositions", unfollowed := true, recurses := true, plainKeys := false, apart := false }
def FnPositionsSaid : Prop := fnPositionsRow.holds Try.pinned (OpenSpec.ofChange fnPositionsSpec)

/-- ITS FALSE NEIGHBOUR: 'it returns false'. Refute it at one input. -/
def fnPositionsWrong : ChangeSpec := { name := "fnPositions", fn := fun _ => fun
  | [d] => { results := [.lit (.bool false)], args := [d] }
  | _ => none }
def FnPositionsWrongFalsely : Prop := fnPositionsRow.holds Try.pinned (OpenSpec.ofChange fnPositionsWrong)

/- THE SECOND FORM. 'bulk': how many values and letters a reading holds, each counted each time it is reached (what is shared counts as often as it is met; a slice's spare places count too). A statement '..UptoSaid' is the law's where the arguments, and the package variables that the reading takes, are together of bulk at most 1048576: NARROWER than '..Said'. Prove '..Said' where nothing that the law and all that it calls make is longer than what came in: it says more and counts as full. Else prove '..UptoSaid'. A law counts once. -/
mutual
def uptoBulk {H : Type} : DataW H → Nat
  | .lit (.string bytes) => bytes.length + 1
  | .lit _ => 1
  | .nil => 1
  | .ptr d => uptoBulk d + 1
  | .slice elems spare => uptoBulkAll elems + uptoBulkAll spare + 1
  | .agg parts => uptoBulkAll parts + 1
  | .iface _ d => uptoBulk d + 1
  | .map entries => uptoBulkEntries entries + 1
  | .held _ => 1
def uptoBulkAll {H : Type} : List (DataW H) → Nat
  | [] => 0
  | d :: r => uptoBulk d + uptoBulkAll r
def uptoBulkEntries {H : Type} : List (Lit × DataW H) → Nat
  | [] => 0
  | x :: r => uptoBulkEntry x + uptoBulkEntries r
def uptoBulkEntry {H : Type} : Lit × DataW H → Nat
  | (.string bytes, d) => bytes.length + uptoBulk d + 1
  | (_, d) => uptoBulk d + 1
 end
def uptoSmall : (H : Type) → List (DataW H) → Bool := fun _ ds => decide (uptoBulkAll ds ≤ 1048576)
def OpenSpec.upto (s : _root_.Go.ChangeSpec) : _root_.Go.OpenSpec := { _root_.Go.OpenSpec.ofChange s with cond := some uptoSmall }

/-- 'laws.FnMinimal', WHERE WHAT IT READS IS OF BULK AT MOST 1048576: true; the input reads as it did. -/
def fnMinimalUptoRow : OpenClaim := { program := "ytgnlfnkgkcmdjaa", sum := "f94cc59e9ce4566ae4d57c8c01f775fbdc00470655ff24dc8ecce962e515dd5d", func := "loop.example/g01922/laws.FnMinimal", spec := "fnMinimal", unfollowed := true, recurses := true, plainKeys := false, apart := false, narrowed := true }
def FnMinimalUptoSaid : Prop := fnMinimalUptoRow.holds Try.pinned (OpenSpec.upto fnMinimalSpec)

/-- 'laws.FnMissingWord', WHERE WHAT IT READS IS OF BULK AT MOST 1048576: true; the input reads as it did. -/
def fnMissingWordUptoRow : OpenClaim := { program := "ytgnlfnkgkcmdjaa", sum := "f94cc59e9ce4566ae4d57c8c01f775fbdc00470655ff24dc8ecce962e515dd5d", func := "loop.example/g01922/laws.FnMissingWord", spec := "fnMissingWord", unfollowed := true, recurses := true, plainKeys := false, apart := false, narrowed := true }
def FnMissingWordUptoSaid : Prop := fnMissingWordUptoRow.holds Try.pinned (OpenSpec.upto fnMissingWordSpec)

/-- 'laws.FnPositions', WHERE WHAT IT READS IS OF BULK AT MOST 1048576: true; the input reads as it did. -/
def fnPositionsUptoRow : OpenClaim := { program := "ytgnlfnkgkcmdjaa", sum := "f94cc59e9ce4566ae4d57c8c01f775fbdc00470655ff24dc8ecce962e515dd5d", func := "loop.example/g01922/laws.FnPositions", spec := "fnPositions", unfollowed := true, recurses := true, plainKeys := false, apart := false, narrowed := true }
def FnPositionsUptoSaid : Prop := fnPositionsUptoRow.holds Try.pinned (OpenSpec.upto fnPositionsSpec)

end Rows
end Go.Proofs.Ytgnlfnkgkcmdjaa
