/-
  DERIVED. GIVEN WITH THE SEED: THE CARDS: each row of YtlpeajiemppicaaGreatDoorRows.lean that lists a variable, with what it lists TIED to the program's text (the seventh form; the later family's looks); each row that meets fmt, with fmt's text TOLD by the authors' own Lean function (tested against real Go, not proved from fmt's source: count such statements apart). THE CARD IS WHAT COUNTS. Prove the row's statement (the work); the ties are given (YtlpeajiemppicaaGreatDoorTie.lean); close each card by the builder's one call (the guide's Derived/Test/ToyasCard.lean, 'card_holds'). Laid BY PROGRAM, IN A SANDBOX (cutbox-door.mjs). By AI agents, Wed Nov 11 2026. No macro, syntax, notation, axiom, sorry.
-/
import Derived.Test.YtlpeajiemppicaaGreatDoorRows
import GoSem.ClaimSeven
namespace Go.Proofs.YtlpeajiemppicaaGreatDoor
namespace Rows

/-- THE TIED CARD OF 'petrinetlaw18.SymmetryPermutes'. -/
def symmetryPermutesCard : Claim7 := { stood := { row := symmetryPermutesRow, standIns := [], harness := (true, "60d561b2b3fca20c56f9f4b4a6834c42cbc561d045cc38033b8b39f188339c37"), looks := false }, kinds := [], alts := [], laidByText := true, laidKinds := [.data, .data, .data], laidTests := true, laidLooks := .later }
def SymmetryPermutesCardSaid : Prop := Claim7.holds Tryz.pinned (.plain (OpenSpec.ofChange symmetryPermutesSpec)) symmetryPermutesCard

/-- THE SECOND FORM's CARD OF 'petrinetlaw18.SymmetryPermutes'. -/
def symmetryPermutesUptoCard : Claim7 := { stood := { row := symmetryPermutesUptoRow, standIns := [], harness := (true, "60d561b2b3fca20c56f9f4b4a6834c42cbc561d045cc38033b8b39f188339c37"), looks := false }, kinds := [], alts := [], laidByText := true, laidKinds := [.data, .data, .data], laidTests := true, laidLooks := .later }
def SymmetryPermutesUptoCardSaid : Prop := Claim7.holds Tryz.pinned (.plain (OpenSpec.upto symmetryPermutesSpec)) symmetryPermutesUptoCard
end Rows
end Go.Proofs.YtlpeajiemppicaaGreatDoor
