/-
  DERIVED. GIVEN WITH THE SEED: THE CARDS: each row of YtfginjifplcedaaDoorRows.lean that lists a variable, with what it lists TIED to the program's text (the seventh form; the later family's looks); each row that meets fmt, with fmt's text TOLD by the authors' own Lean function (tested against real Go, not proved from fmt's source: count such statements apart). THE CARD IS WHAT COUNTS. Prove the row's statement (the work); the ties are given (YtfginjifplcedaaDoorTie.lean); close each card by the builder's one call (the guide's Derived/Test/ToyasCard.lean, 'card_holds'). Laid BY PROGRAM, IN A SANDBOX (cutbox-door.mjs). By AI agents, Wed Nov 11 2026. No macro, syntax, notation, axiom, sorry.
-/
import Derived.Test.YtfginjifplcedaaDoorRows
import GoSem.ClaimSeven
namespace Go.Proofs.YtfginjifplcedaaDoor
namespace Rows

/-- THE TIED CARD OF 'laws.FnExactBranchText'. -/
def fnExactBranchTextCard : Claim7 := { stood := { row := fnExactBranchTextRow, standIns := [], harness := (true, "2324746f031ca662778e0af67c27f1cce3ad28e48abf9727f4cd199b1bd440bc"), looks := false }, kinds := [], alts := [], laidByText := true, laidKinds := [.data, .data, .data], laidTests := true, laidLooks := .later }
def FnExactBranchTextCardSaid : Prop := Claim7.holds Tryd.pinned (.plain (OpenSpec.ofChange fnExactBranchTextSpec)) fnExactBranchTextCard

/-- THE SECOND FORM's CARD OF 'laws.FnExactBranchText'. -/
def fnExactBranchTextUptoCard : Claim7 := { stood := { row := fnExactBranchTextUptoRow, standIns := [], harness := (true, "2324746f031ca662778e0af67c27f1cce3ad28e48abf9727f4cd199b1bd440bc"), looks := false }, kinds := [], alts := [], laidByText := true, laidKinds := [.data, .data, .data], laidTests := true, laidLooks := .later }
def FnExactBranchTextUptoCardSaid : Prop := Claim7.holds Tryd.pinned (.plain (OpenSpec.upto fnExactBranchTextSpec)) fnExactBranchTextUptoCard
end Rows
end Go.Proofs.YtfginjifplcedaaDoor
