/-
  DERIVED. GIVEN WITH THE SEED: THE CARDS: each row of YtimependhfohlaaDoorRows.lean that lists a variable, with what it lists TIED to the program's text (the seventh form; the later family's looks); each row that meets fmt, with fmt's text TOLD by the authors' own Lean function (tested against real Go, not proved from fmt's source: count such statements apart). THE CARD IS WHAT COUNTS. Prove the row's statement (the work); the ties are given (YtimependhfohlaaDoorTie.lean); close each card by the builder's one call (the guide's Derived/Test/ToyasCard.lean, 'card_holds'). Laid BY PROGRAM, IN A SANDBOX (cutbox-door.mjs). By AI agents, Wed Nov 11 2026. No macro, syntax, notation, axiom, sorry.
-/
import Derived.Test.YtimependhfohlaaDoorRows
import GoSem.ClaimSeven
namespace Go.Proofs.YtimependhfohlaaDoor
namespace Rows

/-- THE TIED CARD OF 'petrinetlaw51.AlignTotals'. -/
def alignTotalsCard : Claim7 := { stood := { row := alignTotalsRow, standIns := [], harness := (true, "23aee54dbd68124243508dd43e6ce75cf36c668f34d44883c600b4eefc49abd4"), looks := true }, kinds := [], alts := [], laidByText := true, laidKinds := [.data, .data, .data], laidTests := true, laidLooks := .later }
def AlignTotalsCardSaid : Prop := Claim7.holds Tryd.pinned (.plain (OpenSpec.ofChange alignTotalsSpec)) alignTotalsCard

/-- THE TIED CARD OF 'petrinetlaw51.AlignChecks'. -/
def alignChecksCard : Claim7 := { stood := { row := alignChecksRow, standIns := [], harness := (true, "23aee54dbd68124243508dd43e6ce75cf36c668f34d44883c600b4eefc49abd4"), looks := true }, kinds := [], alts := [], laidByText := true, laidKinds := [.data, .data, .data], laidTests := true, laidLooks := .later }
def AlignChecksCardSaid : Prop := Claim7.holds Tryd.pinned (.plain (OpenSpec.ofChange alignChecksSpec)) alignChecksCard

/-- THE SECOND FORM's CARD OF 'petrinetlaw51.AlignTotals'. -/
def alignTotalsUptoCard : Claim7 := { stood := { row := alignTotalsUptoRow, standIns := [], harness := (true, "23aee54dbd68124243508dd43e6ce75cf36c668f34d44883c600b4eefc49abd4"), looks := true }, kinds := [], alts := [], laidByText := true, laidKinds := [.data, .data, .data], laidTests := true, laidLooks := .later }
def AlignTotalsUptoCardSaid : Prop := Claim7.holds Tryd.pinned (.plain (OpenSpec.upto alignTotalsSpec)) alignTotalsUptoCard

/-- THE SECOND FORM's CARD OF 'petrinetlaw51.AlignChecks'. -/
def alignChecksUptoCard : Claim7 := { stood := { row := alignChecksUptoRow, standIns := [], harness := (true, "23aee54dbd68124243508dd43e6ce75cf36c668f34d44883c600b4eefc49abd4"), looks := true }, kinds := [], alts := [], laidByText := true, laidKinds := [.data, .data, .data], laidTests := true, laidLooks := .later }
def AlignChecksUptoCardSaid : Prop := Claim7.holds Tryd.pinned (.plain (OpenSpec.upto alignChecksSpec)) alignChecksUptoCard
end Rows
end Go.Proofs.YtimependhfohlaaDoor
