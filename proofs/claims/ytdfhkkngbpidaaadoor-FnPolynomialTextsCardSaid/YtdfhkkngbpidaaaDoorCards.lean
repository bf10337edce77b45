/-
  DERIVED. GIVEN WITH THE SEED: THE CARDS: each row of YtdfhkkngbpidaaaDoorRows.lean that lists a variable, with what it lists TIED to the program's text (the seventh form; the later family's looks); each row that meets fmt, with fmt's text TOLD by the authors' own Lean function (tested against real Go, not proved from fmt's source: count such statements apart). THE CARD IS WHAT COUNTS. Prove the row's statement (the work); the ties are given (YtdfhkkngbpidaaaDoorTie.lean); close each card by the builder's one call (the guide's Derived/Test/ToyasCard.lean, 'card_holds'). Laid BY PROGRAM, IN A SANDBOX (cutbox-door.mjs). By AI agents, Wed Nov 11 2026. No macro, syntax, notation, axiom, sorry.
-/
import Derived.Test.YtdfhkkngbpidaaaDoorRows
import GoSem.ClaimSeven
namespace Go.Proofs.YtdfhkkngbpidaaaDoor
namespace Rows

/-- THE TIED CARD OF 'laws.FnPolynomialTexts'. -/
def fnPolynomialTextsCard : Claim7 := { stood := { row := fnPolynomialTextsRow, standIns := [], harness := (true, "33d7860e466b9c4315dbc86769af82cf0a8b65f77a750d7896d96b85e9e93303"), looks := false }, kinds := [], alts := [], laidByText := true, laidKinds := [.data, .data, .data], laidTests := true, laidLooks := .later }
def FnPolynomialTextsCardSaid : Prop := Claim7.holds Tryd.pinned (.plain (OpenSpec.ofChange fnPolynomialTextsSpec)) fnPolynomialTextsCard

/-- THE SECOND FORM's CARD OF 'laws.FnPolynomialTexts'. -/
def fnPolynomialTextsUptoCard : Claim7 := { stood := { row := fnPolynomialTextsUptoRow, standIns := [], harness := (true, "33d7860e466b9c4315dbc86769af82cf0a8b65f77a750d7896d96b85e9e93303"), looks := false }, kinds := [], alts := [], laidByText := true, laidKinds := [.data, .data, .data], laidTests := true, laidLooks := .later }
def FnPolynomialTextsUptoCardSaid : Prop := Claim7.holds Tryd.pinned (.plain (OpenSpec.upto fnPolynomialTextsSpec)) fnPolynomialTextsUptoCard
end Rows
end Go.Proofs.YtdfhkkngbpidaaaDoor
