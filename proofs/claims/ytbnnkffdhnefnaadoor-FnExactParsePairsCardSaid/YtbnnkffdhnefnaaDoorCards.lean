/-
  DERIVED. GIVEN WITH THE SEED: THE CARDS: each row of YtbnnkffdhnefnaaDoorRows.lean that lists a variable, with what it lists TIED to the program's text (the seventh form; the later family's looks); each row that meets fmt, with fmt's text TOLD by the authors' own Lean function (tested against real Go, not proved from fmt's source: count such statements apart). THE CARD IS WHAT COUNTS. Prove the row's statement (the work); the ties are given (YtbnnkffdhnefnaaDoorTie.lean); close each card by the builder's one call (the guide's Derived/Test/ToyasCard.lean, 'card_holds'). Laid BY PROGRAM, IN A SANDBOX (cutbox-door.mjs). By AI agents, Wed Nov 11 2026. No macro, syntax, notation, axiom, sorry.
-/
import Derived.Test.YtbnnkffdhnefnaaDoorRows
import GoSem.ClaimSeven
namespace Go.Proofs.YtbnnkffdhnefnaaDoor
namespace Rows

/-- THE TIED CARD OF 'laws.FnExactFormatPairs'. -/
def fnExactFormatPairsCard : Claim7 := { stood := { row := fnExactFormatPairsRow, standIns := [], harness := (true, "809540b41e4375da552c17acaa47e070ca9000076bd9b96729f29c09eda6118b"), looks := false }, kinds := [], alts := [], laidByText := true, laidKinds := [.data, .data, .data], laidTests := true, laidLooks := .later }
def FnExactFormatPairsCardSaid : Prop := Claim7.holds Tryd.pinned (.plain (OpenSpec.ofChange fnExactFormatPairsSpec)) fnExactFormatPairsCard

/-- THE TIED CARD OF 'laws.FnExactParsePairs'. -/
def fnExactParsePairsCard : Claim7 := { stood := { row := fnExactParsePairsRow, standIns := [], harness := (true, "809540b41e4375da552c17acaa47e070ca9000076bd9b96729f29c09eda6118b"), looks := false }, kinds := [], alts := [], laidByText := true, laidKinds := [.data, .data, .data, .data, .pinned], laidTests := true, laidLooks := .later }
def FnExactParsePairsCardSaid : Prop := Claim7.holds Tryd.pinned (.plain (OpenSpec.ofChange fnExactParsePairsSpec)) fnExactParsePairsCard

/-- THE TIED CARD OF 'laws.FnExactFormatAutomaton'. -/
def fnExactFormatAutomatonCard : Claim7 := { stood := { row := fnExactFormatAutomatonRow, standIns := [], harness := (true, "809540b41e4375da552c17acaa47e070ca9000076bd9b96729f29c09eda6118b"), looks := false }, kinds := [], alts := [], laidByText := true, laidKinds := [.data, .data, .data], laidTests := true, laidLooks := .later }
def FnExactFormatAutomatonCardSaid : Prop := Claim7.holds Tryd.pinned (.plain (OpenSpec.ofChange fnExactFormatAutomatonSpec)) fnExactFormatAutomatonCard

/-- THE TIED CARD OF 'laws.FnExactFormatExpr'. -/
def fnExactFormatExprCard : Claim7 := { stood := { row := fnExactFormatExprRow, standIns := [], harness := (true, "809540b41e4375da552c17acaa47e070ca9000076bd9b96729f29c09eda6118b"), looks := false }, kinds := [], alts := [], laidByText := true, laidKinds := [.data, .data, .data], laidTests := true, laidLooks := .later }
def FnExactFormatExprCardSaid : Prop := Claim7.holds Tryd.pinned (.plain (OpenSpec.ofChange fnExactFormatExprSpec)) fnExactFormatExprCard

/-- THE SECOND FORM's CARD OF 'laws.FnExactFormatPairs'. -/
def fnExactFormatPairsUptoCard : Claim7 := { stood := { row := fnExactFormatPairsUptoRow, standIns := [], harness := (true, "809540b41e4375da552c17acaa47e070ca9000076bd9b96729f29c09eda6118b"), looks := false }, kinds := [], alts := [], laidByText := true, laidKinds := [.data, .data, .data], laidTests := true, laidLooks := .later }
def FnExactFormatPairsUptoCardSaid : Prop := Claim7.holds Tryd.pinned (.plain (OpenSpec.upto fnExactFormatPairsSpec)) fnExactFormatPairsUptoCard

/-- THE SECOND FORM's CARD OF 'laws.FnExactParsePairs'. -/
def fnExactParsePairsUptoCard : Claim7 := { stood := { row := fnExactParsePairsUptoRow, standIns := [], harness := (true, "809540b41e4375da552c17acaa47e070ca9000076bd9b96729f29c09eda6118b"), looks := false }, kinds := [], alts := [], laidByText := true, laidKinds := [.data, .data, .data, .data, .pinned], laidTests := true, laidLooks := .later }
def FnExactParsePairsUptoCardSaid : Prop := Claim7.holds Tryd.pinned (.plain (OpenSpec.upto fnExactParsePairsSpec)) fnExactParsePairsUptoCard

/-- THE SECOND FORM's CARD OF 'laws.FnExactFormatAutomaton'. -/
def fnExactFormatAutomatonUptoCard : Claim7 := { stood := { row := fnExactFormatAutomatonUptoRow, standIns := [], harness := (true, "809540b41e4375da552c17acaa47e070ca9000076bd9b96729f29c09eda6118b"), looks := false }, kinds := [], alts := [], laidByText := true, laidKinds := [.data, .data, .data], laidTests := true, laidLooks := .later }
def FnExactFormatAutomatonUptoCardSaid : Prop := Claim7.holds Tryd.pinned (.plain (OpenSpec.upto fnExactFormatAutomatonSpec)) fnExactFormatAutomatonUptoCard

/-- THE SECOND FORM's CARD OF 'laws.FnExactFormatExpr'. -/
def fnExactFormatExprUptoCard : Claim7 := { stood := { row := fnExactFormatExprUptoRow, standIns := [], harness := (true, "809540b41e4375da552c17acaa47e070ca9000076bd9b96729f29c09eda6118b"), looks := false }, kinds := [], alts := [], laidByText := true, laidKinds := [.data, .data, .data], laidTests := true, laidLooks := .later }
def FnExactFormatExprUptoCardSaid : Prop := Claim7.holds Tryd.pinned (.plain (OpenSpec.upto fnExactFormatExprSpec)) fnExactFormatExprUptoCard
end Rows
end Go.Proofs.YtbnnkffdhnefnaaDoor
