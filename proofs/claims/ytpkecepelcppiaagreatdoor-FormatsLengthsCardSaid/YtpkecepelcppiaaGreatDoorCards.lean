/-
  DERIVED. GIVEN WITH THE SEED: THE CARDS: each row of YtpkecepelcppiaaGreatDoorRows.lean that lists a variable, with what it lists TIED to the program's text (the seventh form; the later family's looks); each row that meets fmt, with fmt's text TOLD by the authors' own Lean function (tested against real Go, not proved from fmt's source: count such statements apart). THE CARD IS WHAT COUNTS. Prove the row's statement (the work); the ties are given (YtpkecepelcppiaaGreatDoorTie.lean); close each card by the builder's one call (the guide's Derived/Test/ToyasCard.lean, 'card_holds'). Laid BY PROGRAM, IN A SANDBOX (cutbox-door.mjs). By AI agents, Wed Nov 11 2026. No macro, syntax, notation, axiom, sorry.
-/
import Derived.Test.YtpkecepelcppiaaGreatDoorRows
import GoSem.ClaimSeven
namespace Go.Proofs.YtpkecepelcppiaaGreatDoor
namespace Rows

/-- THE TIED CARD OF 'datakitlaw17.FormatsChecks'. -/
def formatsChecksCard : Claim7 := { stood := { row := formatsChecksRow, standIns := [], harness := (true, "8cfa6ee276e661974edf2750a3ca9147b5566a7172e666b48f6cd6292f317229"), looks := true }, kinds := [], alts := [], laidByText := true, laidKinds := [.data, .data, .data, .sentinel, .sentinel], laidTests := true, laidLooks := .later }
def FormatsChecksCardSaid : Prop := Claim7.holds Tryz.pinned (.plain (OpenSpec.ofChange formatsChecksSpec)) formatsChecksCard

/-- THE TIED CARD OF 'datakitlaw17.FormatsUtf'. -/
def formatsUtfCard : Claim7 := { stood := { row := formatsUtfRow, standIns := [], harness := (true, "8cfa6ee276e661974edf2750a3ca9147b5566a7172e666b48f6cd6292f317229"), looks := true }, kinds := [], alts := [], laidByText := true, laidKinds := [.data, .data, .data, .sentinel, .sentinel], laidTests := true, laidLooks := .later }
def FormatsUtfCardSaid : Prop := Claim7.holds Tryz.pinned (.plain (OpenSpec.ofChange formatsUtfSpec)) formatsUtfCard

/-- THE TIED CARD OF 'datakitlaw17.FormatsLengths'. -/
def formatsLengthsCard : Claim7 := { stood := { row := formatsLengthsRow, standIns := [], harness := (true, "8cfa6ee276e661974edf2750a3ca9147b5566a7172e666b48f6cd6292f317229"), looks := true }, kinds := [], alts := [], laidByText := true, laidKinds := [.data, .data, .data, .sentinel, .sentinel], laidTests := true, laidLooks := .later }
def FormatsLengthsCardSaid : Prop := Claim7.holds Tryz.pinned (.plain (OpenSpec.ofChange formatsLengthsSpec)) formatsLengthsCard

/-- THE TIED CARD OF 'datakitlaw17.FormatsNames'. -/
def formatsNamesCard : Claim7 := { stood := { row := formatsNamesRow, standIns := [], harness := (true, "8cfa6ee276e661974edf2750a3ca9147b5566a7172e666b48f6cd6292f317229"), looks := true }, kinds := [], alts := [], laidByText := true, laidKinds := [.data, .data, .data, .sentinel, .sentinel], laidTests := true, laidLooks := .later }
def FormatsNamesCardSaid : Prop := Claim7.holds Tryz.pinned (.plain (OpenSpec.ofChange formatsNamesSpec)) formatsNamesCard

/-- THE TIED CARD OF 'datakitlaw17.FormatsTells'. -/
def formatsTellsCard : Claim7 := { stood := { row := formatsTellsRow, standIns := [], harness := (true, "8cfa6ee276e661974edf2750a3ca9147b5566a7172e666b48f6cd6292f317229"), looks := true }, kinds := [], alts := [], laidByText := true, laidKinds := [.data, .data, .data, .data, .sentinel, .sentinel, .pinned], laidTests := true, laidLooks := .later }
def FormatsTellsCardSaid : Prop := Claim7.holds Tryz.pinned (.plain (OpenSpec.ofChange formatsTellsSpec)) formatsTellsCard

/-- THE SECOND FORM's CARD OF 'datakitlaw17.FormatsChecks'. -/
def formatsChecksUptoCard : Claim7 := { stood := { row := formatsChecksUptoRow, standIns := [], harness := (true, "8cfa6ee276e661974edf2750a3ca9147b5566a7172e666b48f6cd6292f317229"), looks := true }, kinds := [], alts := [], laidByText := true, laidKinds := [.data, .data, .data, .sentinel, .sentinel], laidTests := true, laidLooks := .later }
def FormatsChecksUptoCardSaid : Prop := Claim7.holds Tryz.pinned (.plain (OpenSpec.upto formatsChecksSpec)) formatsChecksUptoCard

/-- THE SECOND FORM's CARD OF 'datakitlaw17.FormatsUtf'. -/
def formatsUtfUptoCard : Claim7 := { stood := { row := formatsUtfUptoRow, standIns := [], harness := (true, "8cfa6ee276e661974edf2750a3ca9147b5566a7172e666b48f6cd6292f317229"), looks := true }, kinds := [], alts := [], laidByText := true, laidKinds := [.data, .data, .data, .sentinel, .sentinel], laidTests := true, laidLooks := .later }
def FormatsUtfUptoCardSaid : Prop := Claim7.holds Tryz.pinned (.plain (OpenSpec.upto formatsUtfSpec)) formatsUtfUptoCard

/-- THE SECOND FORM's CARD OF 'datakitlaw17.FormatsLengths'. -/
def formatsLengthsUptoCard : Claim7 := { stood := { row := formatsLengthsUptoRow, standIns := [], harness := (true, "8cfa6ee276e661974edf2750a3ca9147b5566a7172e666b48f6cd6292f317229"), looks := true }, kinds := [], alts := [], laidByText := true, laidKinds := [.data, .data, .data, .sentinel, .sentinel], laidTests := true, laidLooks := .later }
def FormatsLengthsUptoCardSaid : Prop := Claim7.holds Tryz.pinned (.plain (OpenSpec.upto formatsLengthsSpec)) formatsLengthsUptoCard

/-- THE SECOND FORM's CARD OF 'datakitlaw17.FormatsNames'. -/
def formatsNamesUptoCard : Claim7 := { stood := { row := formatsNamesUptoRow, standIns := [], harness := (true, "8cfa6ee276e661974edf2750a3ca9147b5566a7172e666b48f6cd6292f317229"), looks := true }, kinds := [], alts := [], laidByText := true, laidKinds := [.data, .data, .data, .sentinel, .sentinel], laidTests := true, laidLooks := .later }
def FormatsNamesUptoCardSaid : Prop := Claim7.holds Tryz.pinned (.plain (OpenSpec.upto formatsNamesSpec)) formatsNamesUptoCard

/-- THE SECOND FORM's CARD OF 'datakitlaw17.FormatsTells'. -/
def formatsTellsUptoCard : Claim7 := { stood := { row := formatsTellsUptoRow, standIns := [], harness := (true, "8cfa6ee276e661974edf2750a3ca9147b5566a7172e666b48f6cd6292f317229"), looks := true }, kinds := [], alts := [], laidByText := true, laidKinds := [.data, .data, .data, .data, .sentinel, .sentinel, .pinned], laidTests := true, laidLooks := .later }
def FormatsTellsUptoCardSaid : Prop := Claim7.holds Tryz.pinned (.plain (OpenSpec.upto formatsTellsSpec)) formatsTellsUptoCard
end Rows
end Go.Proofs.YtpkecepelcppiaaGreatDoor
