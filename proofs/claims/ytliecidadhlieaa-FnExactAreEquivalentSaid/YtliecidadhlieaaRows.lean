/-
  No cell of these rows narrows 'for every input' (looked for: loops, veiled, ifaces, maps, wideKeys, modest, calm, conditions, laid).
  DERIVED. THE GIVEN ROWS OF THIS SEAT. 6 by the template 'for every input the law returns true; each argument reads behind the call as it read before'; 0 by the template 'total and deterministic' (their statements: YtliecidadhlieaaTotals.lean).
  GIVEN WITH THE SEED: the statements are not yours to turn. If you find one false, say at which input.
  Laid BY PROGRAM, IN A SANDBOX (cutbox-rows.mjs): the forced cells as the released guide's own fill.sh prints them over the translation 7596d85db8592437… (all of the seat's roots in one cut). By AI agents, Wed Nov 11 2026. No macro, syntax, notation, axiom, sorry.
-/
import Derived.Test.YtliecidadhlieaaChecked
import GoSem.Claim
import GoSem.ClaimJoined
import GoSem.ClaimMapViews
import Derived.JoinedTies
import Derived.KernelRfl
namespace Go.Proofs.Ytliecidadhlieaa
/- THE CELL 'sum', in the pinned program and in every row, IS THE sha256 OF THE DUMP (.gsa) THAT YtliecidadhlieaaProg.lean LOADS. Nothing in Lean hashes anything: it is a label: what it is worth is what the hold of that sum in a sandbox is worth. -/
noncomputable def Try.pinned : Pinned := { name := "ytliecidadhlieaa", sum := "7596d85db8592437a52f10c6c099d5971121cae51eeadc35e654fc7debe9c4e8", checked := Try.checked }
namespace Rows
def none {H : Type} : Left H := { results := [], args := [] }

/-- 'laws.FnExactIncludesLanguage': WHATEVER THE INPUT: true; the input reads as it did. -/
def fnExactIncludesLanguageSpec : ChangeSpec := { name := "fnExactIncludesLanguage", fn := fun _ => fun
  | [d1, d2] => { results := [.lit (.bool true)], args := [d1, d2] }
  | _ => none }
def fnExactIncludesLanguageRow : OpenClaim := { program := "ytliecidadhlieaa", sum := "7596d85db8592437a52f10c6c099d5971121cae51eeadc35e654fc7debe9c4e8", func := "loop.example/g01922/laws.FnExactIncludesLanguage", spec := "fnExactIncludesLanguage", unfollowed := true, recurses := true, plainKeys := false, apart := false }
def FnExactIncludesLanguageSaid : Prop := fnExactIncludesLanguageRow.holds Try.pinned (OpenSpec.ofChange fnExactIncludesLanguageSpec)

/-- ITS FALSE NEIGHBOUR: 'it returns false'. Refute it at one input. -/
def fnExactIncludesLanguageWrong : ChangeSpec := { name := "fnExactIncludesLanguage", fn := fun _ => fun
  | [d1, d2] => { results := [.lit (.bool false)], args := [d1, d2] }
  | _ => none }
def FnExactIncludesLanguageWrongFalsely : Prop := fnExactIncludesLanguageRow.holds Try.pinned (OpenSpec.ofChange fnExactIncludesLanguageWrong)

/-- 'laws.FnExactAreEquivalent': WHATEVER THE INPUT: true; the input reads as it did. -/
def fnExactAreEquivalentSpec : ChangeSpec := { name := "fnExactAreEquivalent", fn := fun _ => fun
  | [d1, d2] => { results := [.lit (.bool true)], args := [d1, d2] }
  | _ => none }
def fnExactAreEquivalentRow : OpenClaim := { program := "ytliecidadhlieaa", sum := "7596d85db8592437a52f10c6c099d5971121cae51eeadc35e654fc7debe9c4e8", func := "loop.example/g01922/laws.FnExactAreEquivalent", spec := "fnExactAreEquivalent", unfollowed := true, recurses := true, plainKeys := false, apart := false }
def FnExactAreEquivalentSaid : Prop := fnExactAreEquivalentRow.holds Try.pinned (OpenSpec.ofChange fnExactAreEquivalentSpec)

/-- ITS FALSE NEIGHBOUR: 'it returns false'. Refute it at one input. -/
def fnExactAreEquivalentWrong : ChangeSpec := { name := "fnExactAreEquivalent", fn := fun _ => fun
  | [d1, d2] => { results := [.lit (.bool false)], args := [d1, d2] }
  | _ => none }
def FnExactAreEquivalentWrongFalsely : Prop := fnExactAreEquivalentRow.holds Try.pinned (OpenSpec.ofChange fnExactAreEquivalentWrong)

/-- 'laws.FnExactMissingWord': WHATEVER THE INPUT: true; the input reads as it did. -/
def fnExactMissingWordSpec : ChangeSpec := { name := "fnExactMissingWord", fn := fun _ => fun
  | [d1, d2] => { results := [.lit (.bool true)], args := [d1, d2] }
  | _ => none }
def fnExactMissingWordRow : OpenClaim := { program := "ytliecidadhlieaa", sum := "7596d85db8592437a52f10c6c099d5971121cae51eeadc35e654fc7debe9c4e8", func := "loop.example/g01922/laws.FnExactMissingWord", spec := "fnExactMissingWord", unfollowed := true, recurses := true, plainKeys := false, apart := false }
def FnExactMissingWordSaid : Prop := fnExactMissingWordRow.holds Try.pinned (OpenSpec.ofChange fnExactMissingWordSpec)

/-- ITS FALSE NEIGHBOUR: 'it returns false'. Refute it at one input. -/
def fnExactMissingWordWrong : ChangeSpec := { name := "fnExactMissingWord", fn := fun _ => fun
  | [d1, d2] => { results := [.lit (.bool false)], args := [d1, d2] }
  | _ => none }
def FnExactMissingWordWrongFalsely : Prop := fnExactMissingWordRow.holds Try.pinned (OpenSpec.ofChange fnExactMissingWordWrong)

/-- 'laws.FnExactDistinguishingWord': WHATEVER THE INPUT: true; the input reads as it did. -/
def fnExactDistinguishingWordSpec : ChangeSpec := { name := "fnExactDistinguishingWord", fn := fun _ => fun
  | [d1, d2, d3] => { results := [.lit (.bool true)], args := [d1, d2, d3] }
  | _ => none }
def fnExactDistinguishingWordRow : OpenClaim := { program := "ytliecidadhlieaa", sum := "7596d85db8592437a52f10c6c099d5971121cae51eeadc35e654fc7debe9c4e8", func := "loop.example/g01922/laws.FnExactDistinguishingWord", spec := "fnExactDistinguishingWord", unfollowed := true, recurses := true, plainKeys := false, apart := false }
def FnExactDistinguishingWordSaid : Prop := fnExactDistinguishingWordRow.holds Try.pinned (OpenSpec.ofChange fnExactDistinguishingWordSpec)

/-- ITS FALSE NEIGHBOUR: 'it returns false'. Refute it at one input. -/
def fnExactDistinguishingWordWrong : ChangeSpec := { name := "fnExactDistinguishingWord", fn := fun _ => fun
  | [d1, d2, d3] => { results := [.lit (.bool false)], args := [d1, d2, d3] }
  | _ => none }
def FnExactDistinguishingWordWrongFalsely : Prop := fnExactDistinguishingWordRow.holds Try.pinned (OpenSpec.ofChange fnExactDistinguishingWordWrong)

/-- 'laws.FnExactShortestAccepted': WHATEVER THE INPUT: true; the input reads as it did. -/
def fnExactShortestAcceptedSpec : ChangeSpec := { name := "fnExactShortestAccepted", fn := fun _ => fun
  | [d] => { results := [.lit (.bool true)], args := [d] }
  | _ => none }
def fnExactShortestAcceptedRow : OpenClaim := { program := "ytliecidadhlieaa", sum := "7596d85db8592437a52f10c6c099d5971121cae51eeadc35e654fc7debe9c4e8", func := "loop.example/g01922/laws.FnExactShortestAccepted", spec := "fnExactShortestAccepted", unfollowed := true, recurses := true, plainKeys := false, apart := false }
def FnExactShortestAcceptedSaid : Prop := fnExactShortestAcceptedRow.holds Try.pinned (OpenSpec.ofChange fnExactShortestAcceptedSpec)

/-- ITS FALSE NEIGHBOUR: 'it returns false'. Refute it at one input. -/
def fnExactShortestAcceptedWrong : ChangeSpec := { name := "fnExactShortestAccepted", fn := fun _ => fun
  | [d] => { results := [.lit (.bool false)], args := [d] }
  | _ => none }
def FnExactShortestAcceptedWrongFalsely : Prop := fnExactShortestAcceptedRow.holds Try.pinned (OpenSpec.ofChange fnExactShortestAcceptedWrong)

/-- 'laws.FnExactIsFiniteLanguage': WHATEVER THE INPUT: true; the input reads as it did. -/
def fnExactIsFiniteLanguageSpec : ChangeSpec := { name := "fnExactIsFiniteLanguage", fn := fun _ => fun
  | [d] => { results := [.lit (.bool true)], args := [d] }
  | _ => none }
def fnExactIsFiniteLanguageRow : OpenClaim := { program := "ytliecidadhlieaa", sum := "7596d85db8592437a52f10c6c099d5971121cae51eeadc35e654fc7debe9c4e8", func := "loop.example/g01922/laws.FnExactIsFiniteLanguage", spec := "fnExactIsFiniteLanguage", unfollowed := true, recurses := true, plainKeys := false, apart := false }
def FnExactIsFiniteLanguageSaid : Prop := fnExactIsFiniteLanguageRow.holds Try.pinned (OpenSpec.ofChange fnExactIsFiniteLanguageSpec)

/-- ITS FALSE NEIGHBOUR: 'it returns false'. Refute it at one input. -/
def fnExactIsFiniteLanguageWrong : ChangeSpec := { name := "fnExactIsFiniteLanguage", fn := fun _ => fun
  | [d] => { results := [.lit (.bool false)], args := [d] }
  | _ => none }
def FnExactIsFiniteLanguageWrongFalsely : Prop := fnExactIsFiniteLanguageRow.holds Try.pinned (OpenSpec.ofChange fnExactIsFiniteLanguageWrong)

/- THE SECOND FORM. 'bulk': how many values and letters a reading holds, each counted each time it is reached (what is shared counts as often as it is met; a slice's spare places count too). A statement '..UptoSaid' is the law's where the arguments, and the package variables that the reading takes, are together of bulk at most 1048576: NARROWER than '..Said'. Prove '..Said' where nothing that the law and all that it calls make is longer than what came in: it says more and counts as full. Else prove '..UptoSaid'. A law counts once. -/
mutual
def uptoBulk {H : Type} : DataW H → Nat
  | .lit (.string bytes) => bytes.length + 1
  | .lit _ => 1
  | .nil => 1
  | .ptr d => uptoBulk d + 1
  | .slice elems spare => uptoBulkAll elems + uptoBulkAll spare + 1
  | .agg parts => uptoBulkAll parts + 1
  | .iface _ d => uptoBulk d + 1
  | .map entries => uptoBulkEntries entries + 1
  | .held _ => 1
def uptoBulkAll {H : Type} : List (DataW H) → Nat
  | [] => 0
  | d :: r => uptoBulk d + uptoBulkAll r
def uptoBulkEntries {H : Type} : List (Lit × DataW H) → Nat
  | [] => 0
  | x :: r => uptoBulkEntry x + uptoBulkEntries r
def uptoBulkEntry {H : Type} : Lit × DataW H → Nat
  | (.string bytes, d) => bytes.length + uptoBulk d + 1
  | (_, d) => uptoBulk d + 1
 end
def uptoSmall : (H : Type) → List (DataW H) → Bool := fun _ ds => decide (uptoBulkAll ds ≤ 1048576)
def OpenSpec.upto (s : _root_.Go.ChangeSpec) : _root_.Go.OpenSpec := { _root_.Go.OpenSpec.ofChange s with cond := some uptoSmall }

/-- 'laws.FnExactIncludesLanguage', WHERE WHAT IT READS IS OF BULK AT MOST 1048576: true; the input reads as it did. -/
def fnExactIncludesLanguageUptoRow : OpenClaim := { program := "ytliecidadhlieaa", sum := "7596d85db8592437a52f10c6c099d5971121cae51eeadc35e654fc7debe9c4e8", func := "loop.example/g01922/laws.FnExactIncludesLanguage", spec := "fnExactIncludesLanguage", unfollowed := true, recurses := true, plainKeys := false, apart := false, narrowed := true }
def FnExactIncludesLanguageUptoSaid : Prop := fnExactIncludesLanguageUptoRow.holds Try.pinned (OpenSpec.upto fnExactIncludesLanguageSpec)

/-- 'laws.FnExactAreEquivalent', WHERE WHAT IT READS IS OF BULK AT MOST 1048576: true; the input reads as it did. -/
def fnExactAreEquivalentUptoRow : OpenClaim := { program := "ytliecidadhlieaa", sum := "7596d85db8592437a52f10c6c099d5971121cae51eeadc35e654fc7debe9c4e8", func := "loop.example/g01922/laws.FnExactAreEquivalent", spec := "fnExactAreEquivalent", unfollowed := true, recurses := true, plainKeys := false, apart := false, narrowed := true }
def FnExactAreEquivalentUptoSaid : Prop := fnExactAreEquivalentUptoRow.holds Try.pinned (OpenSpec.upto fnExactAreEquivalentSpec)

/-- 'laws.FnExactMissingWord', WHERE WHAT IT READS IS OF BULK AT MOST 1048576: true; the input reads as it did. -/
def fnExactMissingWordUptoRow : OpenClaim := { program := "ytliecidadhlieaa", sum := "7596d85db8592437a52f10c6c099d5971121cae51eeadc35e654fc7debe9c4e8", func := "loop.example/g01922/laws.FnExactMissingWord", spec := "fnExactMissingWord", unfollowed := true, recurses := true, plainKeys := false, apart := false, narrowed := true }
def FnExactMissingWordUptoSaid : Prop := fnExactMissingWordUptoRow.holds Try.pinned (OpenSpec.upto fnExactMissingWordSpec)

/-- 'laws.FnExactDistinguishingWord', WHERE WHAT IT READS IS OF BULK AT MOST 1048576: true; the input reads as it did. -/
def fnExactDistinguishingWordUptoRow : OpenClaim := { program := "ytliecidadhlieaa", sum := "7596d85db8592437a52f10c6c099d5971121cae51eeadc35e654fc7debe9c4e8", func := "loop.example/g01922/laws.FnExactDistinguishingWord", spec := "fnExactDistinguishingWord", unfollowed := true, recurses := true, plainKeys := false, apart := false, narrowed := true }
def FnExactDistinguishingWordUptoSaid : Prop := fnExactDistinguishingWordUptoRow.holds Try.pinned (OpenSpec.upto fnExactDistinguishingWordSpec)

/-- 'laws.FnExactShortestAccepted', WHERE WHAT IT READS IS OF BULK AT MOST 1048576: true; the input reads as it did. -/
def fnExactShortestAcceptedUptoRow : OpenClaim := { program := "ytliecidadhlieaa", sum := "7596d85db8592437a52f10c6c099d5971121cae51eeadc35e654fc7debe9c4e8", func := "loop.example/g01922/laws.FnExactShortestAccepted", spec := "fnExactShortestAccepted", unfollowed := true, recurses := true, plainKeys := false, apart := false, narrowed := true }
def FnExactShortestAcceptedUptoSaid : Prop := fnExactShortestAcceptedUptoRow.holds Try.pinned (OpenSpec.upto fnExactShortestAcceptedSpec)

/-- 'laws.FnExactIsFiniteLanguage', WHERE WHAT IT READS IS OF BULK AT MOST 1048576: true; the input reads as it did. -/
def fnExactIsFiniteLanguageUptoRow : OpenClaim := { program := "ytliecidadhlieaa", sum := "7596d85db8592437a52f10c6c099d5971121cae51eeadc35e654fc7debe9c4e8", func := "loop.example/g01922/laws.FnExactIsFiniteLanguage", spec := "fnExactIsFiniteLanguage", unfollowed := true, recurses := true, plainKeys := false, apart := false, narrowed := true }
def FnExactIsFiniteLanguageUptoSaid : Prop := fnExactIsFiniteLanguageUptoRow.holds Try.pinned (OpenSpec.upto fnExactIsFiniteLanguageSpec)

end Rows
end Go.Proofs.Ytliecidadhlieaa
