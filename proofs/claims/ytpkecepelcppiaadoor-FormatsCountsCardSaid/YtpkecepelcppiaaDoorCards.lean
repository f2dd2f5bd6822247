/-
  DERIVED. GIVEN WITH THE SEED: THE CARDS: each row of YtpkecepelcppiaaDoorRows.lean that lists a variable, with what it lists TIED to the program's text (the seventh form; the later family's looks); each row that meets fmt, with fmt's text TOLD by the authors' own Lean function (tested against real Go, not proved from fmt's source: count such statements apart). THE CARD IS WHAT COUNTS. Prove the row's statement (the work); the ties are given (YtpkecepelcppiaaDoorTie.lean); close each card by the builder's one call (the guide's Derived/Test/ToyasCard.lean, 'card_holds'). Laid BY PROGRAM, IN A SANDBOX (cutbox-door.mjs). By AI agents, Wed Nov 11 2026. No macro, syntax, notation, axiom, sorry.
-/
import Derived.Test.YtpkecepelcppiaaDoorRows
import GoSem.ClaimSeven
namespace Go.Proofs.YtpkecepelcppiaaDoor
namespace Rows

/-- THE TIED CARD OF 'datakitlaw17.FormatsCounts'. -/
def formatsCountsCard : Claim7 := { stood := { row := formatsCountsRow, standIns := [], harness := (true, "485daaeba7029f7384b6898b51cd4c7820417695ac6c4709ef08bae515fe0ec3"), looks := true }, kinds := [], alts := [], laidByText := true, laidKinds := [.data, .data, .data, .sentinel, .sentinel], laidTests := true, laidLooks := .later }
def FormatsCountsCardSaid : Prop := Claim7.holds Tryd.pinned (.plain (OpenSpec.ofChange formatsCountsSpec)) formatsCountsCard

/-- THE SECOND FORM's CARD OF 'datakitlaw17.FormatsCounts'. -/
def formatsCountsUptoCard : Claim7 := { stood := { row := formatsCountsUptoRow, standIns := [], harness := (true, "485daaeba7029f7384b6898b51cd4c7820417695ac6c4709ef08bae515fe0ec3"), looks := true }, kinds := [], alts := [], laidByText := true, laidKinds := [.data, .data, .data, .sentinel, .sentinel], laidTests := true, laidLooks := .later }
def FormatsCountsUptoCardSaid : Prop := Claim7.holds Tryd.pinned (.plain (OpenSpec.upto formatsCountsSpec)) formatsCountsUptoCard
end Rows
end Go.Proofs.YtpkecepelcppiaaDoor
