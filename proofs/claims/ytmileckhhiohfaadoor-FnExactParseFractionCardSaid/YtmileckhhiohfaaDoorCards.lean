/-
  DERIVED. GIVEN WITH THE SEED: THE CARDS: each row of YtmileckhhiohfaaDoorRows.lean that lists a variable, with what it lists TIED to the program's text (the seventh form; the later family's looks); each row that meets fmt, with fmt's text TOLD by the authors' own Lean function (tested against real Go, not proved from fmt's source: count such statements apart). THE CARD IS WHAT COUNTS. Prove the row's statement (the work); the ties are given (YtmileckhhiohfaaDoorTie.lean); close each card by the builder's one call (the guide's Derived/Test/ToyasCard.lean, 'card_holds'). Laid BY PROGRAM, IN A SANDBOX (cutbox-door.mjs). By AI agents, Wed Nov 11 2026. No macro, syntax, notation, axiom, sorry.
-/
import Derived.Test.YtmileckhhiohfaaDoorRows
import GoSem.ClaimSeven
namespace Go.Proofs.YtmileckhhiohfaaDoor
namespace Rows

/-- THE TIED CARD OF 'laws.FnExactFractionText'. -/
def fnExactFractionTextCard : Claim7 := { stood := { row := fnExactFractionTextRow, standIns := [], harness := (true, "4aae6453e7937474c4f889f8e2c599e0a86bdbd1f09a092c1ab87e79ce54df8f"), looks := false }, kinds := [], alts := [], laidByText := true, laidKinds := [.data, .data, .data], laidTests := true, laidLooks := .later }
def FnExactFractionTextCardSaid : Prop := Claim7.holds Tryd.pinned (.plain (OpenSpec.ofChange fnExactFractionTextSpec)) fnExactFractionTextCard

/-- THE TIED CARD OF 'laws.FnExactParseFraction'. -/
def fnExactParseFractionCard : Claim7 := { stood := { row := fnExactParseFractionRow, standIns := [], harness := (true, "4aae6453e7937474c4f889f8e2c599e0a86bdbd1f09a092c1ab87e79ce54df8f"), looks := false }, kinds := [], alts := [], laidByText := true, laidKinds := [.data, .data, .data], laidTests := true, laidLooks := .later }
def FnExactParseFractionCardSaid : Prop := Claim7.holds Tryd.pinned (.plain (OpenSpec.ofChange fnExactParseFractionSpec)) fnExactParseFractionCard

/-- THE SECOND FORM's CARD OF 'laws.FnExactFractionText'. -/
def fnExactFractionTextUptoCard : Claim7 := { stood := { row := fnExactFractionTextUptoRow, standIns := [], harness := (true, "4aae6453e7937474c4f889f8e2c599e0a86bdbd1f09a092c1ab87e79ce54df8f"), looks := false }, kinds := [], alts := [], laidByText := true, laidKinds := [.data, .data, .data], laidTests := true, laidLooks := .later }
def FnExactFractionTextUptoCardSaid : Prop := Claim7.holds Tryd.pinned (.plain (OpenSpec.upto fnExactFractionTextSpec)) fnExactFractionTextUptoCard

/-- THE SECOND FORM's CARD OF 'laws.FnExactParseFraction'. -/
def fnExactParseFractionUptoCard : Claim7 := { stood := { row := fnExactParseFractionUptoRow, standIns := [], harness := (true, "4aae6453e7937474c4f889f8e2c599e0a86bdbd1f09a092c1ab87e79ce54df8f"), looks := false }, kinds := [], alts := [], laidByText := true, laidKinds := [.data, .data, .data], laidTests := true, laidLooks := .later }
def FnExactParseFractionUptoCardSaid : Prop := Claim7.holds Tryd.pinned (.plain (OpenSpec.upto fnExactParseFractionSpec)) fnExactParseFractionUptoCard
end Rows
end Go.Proofs.YtmileckhhiohfaaDoor
