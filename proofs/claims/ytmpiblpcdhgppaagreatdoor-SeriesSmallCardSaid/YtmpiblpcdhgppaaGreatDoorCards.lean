/-
  DERIVED. GIVEN WITH THE SEED: THE CARDS: each row of YtmpiblpcdhgppaaGreatDoorRows.lean that lists a variable, with what it lists TIED to the program's text (the seventh form; the later family's looks); each row that meets fmt, with fmt's text TOLD by the authors' own Lean function (tested against real Go, not proved from fmt's source: count such statements apart). THE CARD IS WHAT COUNTS. Prove the row's statement (the work); the ties are given (YtmpiblpcdhgppaaGreatDoorTie.lean); close each card by the builder's one call (the guide's Derived/Test/ToyasCard.lean, 'card_holds'). Laid BY PROGRAM, IN A SANDBOX (cutbox-door.mjs). By AI agents, Wed Nov 11 2026. No macro, syntax, notation, axiom, sorry.
-/
import Derived.Test.YtmpiblpcdhgppaaGreatDoorRows
import GoSem.ClaimSeven
namespace Go.Proofs.YtmpiblpcdhgppaaGreatDoor
namespace Rows

/-- THE TIED CARD OF 'roundelaylaw17.SeriesSmall'. -/
def seriesSmallCard : Claim7 := { stood := { row := seriesSmallRow, standIns := [], harness := (true, "0457f36c199c79aca17899825bf3124d3c65afd22cf3f2a474c8b2339814521b"), looks := false }, kinds := [], alts := [], laidByText := true, laidKinds := [.data, .funcs, .pinned], laidTests := true, laidLooks := .later }
def SeriesSmallCardSaid : Prop := Claim7.holds Tryz.pinned (.plain (OpenSpec.ofChange seriesSmallSpec)) seriesSmallCard

/-- THE SECOND FORM's CARD OF 'roundelaylaw17.SeriesSmall'. -/
def seriesSmallUptoCard : Claim7 := { stood := { row := seriesSmallUptoRow, standIns := [], harness := (true, "0457f36c199c79aca17899825bf3124d3c65afd22cf3f2a474c8b2339814521b"), looks := false }, kinds := [], alts := [], laidByText := true, laidKinds := [.data, .funcs, .pinned], laidTests := true, laidLooks := .later }
def SeriesSmallUptoCardSaid : Prop := Claim7.holds Tryz.pinned (.plain (OpenSpec.upto seriesSmallSpec)) seriesSmallUptoCard
end Rows
end Go.Proofs.YtmpiblpcdhgppaaGreatDoor
