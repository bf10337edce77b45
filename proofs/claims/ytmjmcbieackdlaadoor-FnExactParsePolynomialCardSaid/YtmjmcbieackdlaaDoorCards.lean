/-
  DERIVED. GIVEN WITH THE SEED: THE CARDS: each row of YtmjmcbieackdlaaDoorRows.lean that lists a variable, with what it lists TIED to the program's text (the seventh form; the later family's looks); each row that meets fmt, with fmt's text TOLD by the authors' own Lean function (tested against real Go, not proved from fmt's source: count such statements apart). THE CARD IS WHAT COUNTS. Prove the row's statement (the work); the ties are given (YtmjmcbieackdlaaDoorTie.lean); close each card by the builder's one call (the guide's Derived/Test/ToyasCard.lean, 'card_holds'). Laid BY PROGRAM, IN A SANDBOX (cutbox-door.mjs). By AI agents, Wed Nov 11 2026. No macro, syntax, notation, axiom, sorry.
-/
import Derived.Test.YtmjmcbieackdlaaDoorRows
import GoSem.ClaimSeven
namespace Go.Proofs.YtmjmcbieackdlaaDoor
namespace Rows

/-- THE TIED CARD OF 'laws.FnExactPolynomialText'. -/
def fnExactPolynomialTextCard : Claim7 := { stood := { row := fnExactPolynomialTextRow, standIns := [], harness := (true, "0b9118a1b3b225b6aef9f37c9eb159b9eae712a39ac73ebbab0577f06010917f"), looks := false }, kinds := [], alts := [], laidByText := true, laidKinds := [.data, .data, .data], laidTests := true, laidLooks := .later }
def FnExactPolynomialTextCardSaid : Prop := Claim7.holds Tryd.pinned (.plain (OpenSpec.ofChange fnExactPolynomialTextSpec)) fnExactPolynomialTextCard

/-- THE TIED CARD OF 'laws.FnExactParsePolynomial'. -/
def fnExactParsePolynomialCard : Claim7 := { stood := { row := fnExactParsePolynomialRow, standIns := [], harness := (true, "0b9118a1b3b225b6aef9f37c9eb159b9eae712a39ac73ebbab0577f06010917f"), looks := false }, kinds := [], alts := [], laidByText := true, laidKinds := [.data, .data, .data], laidTests := true, laidLooks := .later }
def FnExactParsePolynomialCardSaid : Prop := Claim7.holds Tryd.pinned (.plain (OpenSpec.ofChange fnExactParsePolynomialSpec)) fnExactParsePolynomialCard

/-- THE SECOND FORM's CARD OF 'laws.FnExactPolynomialText'. -/
def fnExactPolynomialTextUptoCard : Claim7 := { stood := { row := fnExactPolynomialTextUptoRow, standIns := [], harness := (true, "0b9118a1b3b225b6aef9f37c9eb159b9eae712a39ac73ebbab0577f06010917f"), looks := false }, kinds := [], alts := [], laidByText := true, laidKinds := [.data, .data, .data], laidTests := true, laidLooks := .later }
def FnExactPolynomialTextUptoCardSaid : Prop := Claim7.holds Tryd.pinned (.plain (OpenSpec.upto fnExactPolynomialTextSpec)) fnExactPolynomialTextUptoCard

/-- THE SECOND FORM's CARD OF 'laws.FnExactParsePolynomial'. -/
def fnExactParsePolynomialUptoCard : Claim7 := { stood := { row := fnExactParsePolynomialUptoRow, standIns := [], harness := (true, "0b9118a1b3b225b6aef9f37c9eb159b9eae712a39ac73ebbab0577f06010917f"), looks := false }, kinds := [], alts := [], laidByText := true, laidKinds := [.data, .data, .data], laidTests := true, laidLooks := .later }
def FnExactParsePolynomialUptoCardSaid : Prop := Claim7.holds Tryd.pinned (.plain (OpenSpec.upto fnExactParsePolynomialSpec)) fnExactParsePolynomialUptoCard
end Rows
end Go.Proofs.YtmjmcbieackdlaaDoor
