/-
  DERIVED. GIVEN WITH THE SEED: THE CARDS: each row of YtdgjjmkpninnoaaDoorRows.lean that lists a variable, with what it lists TIED to the program's text (the seventh form; the later family's looks); each row that meets fmt, with fmt's text TOLD by the authors' own Lean function (tested against real Go, not proved from fmt's source: count such statements apart). THE CARD IS WHAT COUNTS. Prove the row's statement (the work); the ties are given (YtdgjjmkpninnoaaDoorTie.lean); close each card by the builder's one call (the guide's Derived/Test/ToyasCard.lean, 'card_holds'). Laid BY PROGRAM, IN A SANDBOX (cutbox-door.mjs). By AI agents, Wed Nov 11 2026. No macro, syntax, notation, axiom, sorry.
-/
import Derived.Test.YtdgjjmkpninnoaaDoorRows
import GoSem.ClaimSeven
namespace Go.Proofs.YtdgjjmkpninnoaaDoor
namespace Rows

/-- THE TIED CARD OF 'laws.FnFractions'. -/
def fnFractionsCard : Claim7 := { stood := { row := fnFractionsRow, standIns := [], harness := (true, "7e80387e87c25777909b44f4d42ac9cb47c893f903a28c35cd730fcc53ac4e37"), looks := false }, kinds := [], alts := [], laidByText := true, laidKinds := [.data, .data, .data], laidTests := true, laidLooks := .later }
def FnFractionsCardSaid : Prop := Claim7.holds Tryd.pinned (.plain (OpenSpec.ofChange fnFractionsSpec)) fnFractionsCard

/-- THE SECOND FORM's CARD OF 'laws.FnFractions'. -/
def fnFractionsUptoCard : Claim7 := { stood := { row := fnFractionsUptoRow, standIns := [], harness := (true, "7e80387e87c25777909b44f4d42ac9cb47c893f903a28c35cd730fcc53ac4e37"), looks := false }, kinds := [], alts := [], laidByText := true, laidKinds := [.data, .data, .data], laidTests := true, laidLooks := .later }
def FnFractionsUptoCardSaid : Prop := Claim7.holds Tryd.pinned (.plain (OpenSpec.upto fnFractionsSpec)) fnFractionsUptoCard
end Rows
end Go.Proofs.YtdgjjmkpninnoaaDoor
