/-
  DERIVED. GIVEN WITH THE SEED: THE CARDS: each row of YtopgmopdjiahmaaDoorRows.lean that lists a variable, with what it lists TIED to the program's text (the seventh form; the later family's looks); each row that meets fmt, with fmt's text TOLD by the authors' own Lean function (tested against real Go, not proved from fmt's source: count such statements apart). THE CARD IS WHAT COUNTS. Prove the row's statement (the work); the ties are given (YtopgmopdjiahmaaDoorTie.lean); close each card by the builder's one call (the guide's Derived/Test/ToyasCard.lean, 'card_holds'). Laid BY PROGRAM, IN A SANDBOX (cutbox-door.mjs). By AI agents, Wed Nov 11 2026. No macro, syntax, notation, axiom, sorry.
-/
import Derived.Test.YtopgmopdjiahmaaDoorRows
import GoSem.ClaimSeven
namespace Go.Proofs.YtopgmopdjiahmaaDoor
namespace Rows

/-- THE TIED CARD OF 'lychgatelaw15.CoerceKnown'. -/
def coerceKnownCard : Claim7 := { stood := { row := coerceKnownRow, standIns := [], harness := (true, "8d8e72fef0f69d64b4c13082170c8c7ef984d5cbe57d39598136eb6ce286b2d6"), looks := true }, kinds := [], alts := [], laidByText := true, laidKinds := [.data, .data, .data], laidTests := true, laidLooks := .later }
def CoerceKnownCardSaid : Prop := Claim7.holds Tryd.pinned (.plain (OpenSpec.ofChange coerceKnownSpec)) coerceKnownCard

/-- THE SECOND FORM's CARD OF 'lychgatelaw15.CoerceKnown'. -/
def coerceKnownUptoCard : Claim7 := { stood := { row := coerceKnownUptoRow, standIns := [], harness := (true, "8d8e72fef0f69d64b4c13082170c8c7ef984d5cbe57d39598136eb6ce286b2d6"), looks := true }, kinds := [], alts := [], laidByText := true, laidKinds := [.data, .data, .data], laidTests := true, laidLooks := .later }
def CoerceKnownUptoCardSaid : Prop := Claim7.holds Tryd.pinned (.plain (OpenSpec.upto coerceKnownSpec)) coerceKnownUptoCard
end Rows
end Go.Proofs.YtopgmopdjiahmaaDoor
