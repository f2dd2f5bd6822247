/-
  DERIVED. GIVEN WITH THE SEED: THE CARDS: each row of YtgddhkanfcpipaaGreatDoorRows.lean that lists a variable, with what it lists TIED to the program's text (the seventh form; the later family's looks); each row that meets fmt, with fmt's text TOLD by the authors' own Lean function (tested against real Go, not proved from fmt's source: count such statements apart). THE CARD IS WHAT COUNTS. Prove the row's statement (the work); the ties are given (YtgddhkanfcpipaaGreatDoorTie.lean); close each card by the builder's one call (the guide's Derived/Test/ToyasCard.lean, 'card_holds'). Laid BY PROGRAM, IN A SANDBOX (cutbox-door.mjs). By AI agents, Wed Nov 11 2026. No macro, syntax, notation, axiom, sorry.
-/
import Derived.Test.YtgddhkanfcpipaaGreatDoorRows
import GoSem.ClaimSeven
namespace Go.Proofs.YtgddhkanfcpipaaGreatDoor
namespace Rows

/-- THE TIED CARD OF 'datakitlaw21.IndentlexLines'. -/
def indentlexLinesCard : Claim7 := { stood := { row := indentlexLinesRow, standIns := [], harness := (true, "9e7ff4792e74a8f011e3ff23f87f676ab4b557c64a3cde809f97a71c988d1849"), looks := false }, kinds := [], alts := [], laidByText := true, laidKinds := [.data, .pinned], laidTests := true, laidLooks := .later }
def IndentlexLinesCardSaid : Prop := Claim7.holds Tryz.pinned (.plain (OpenSpec.ofChange indentlexLinesSpec)) indentlexLinesCard

/-- THE TIED CARD OF 'datakitlaw21.IndentlexScalars'. -/
def indentlexScalarsCard : Claim7 := { stood := { row := indentlexScalarsRow, standIns := [], harness := (true, "9e7ff4792e74a8f011e3ff23f87f676ab4b557c64a3cde809f97a71c988d1849"), looks := false }, kinds := [], alts := [], laidByText := true, laidKinds := [.data, .pinned], laidTests := true, laidLooks := .later }
def IndentlexScalarsCardSaid : Prop := Claim7.holds Tryz.pinned (.plain (OpenSpec.ofChange indentlexScalarsSpec)) indentlexScalarsCard

/-- THE TIED CARD OF 'datakitlaw21.IndentlexKeys'. -/
def indentlexKeysCard : Claim7 := { stood := { row := indentlexKeysRow, standIns := [], harness := (true, "9e7ff4792e74a8f011e3ff23f87f676ab4b557c64a3cde809f97a71c988d1849"), looks := false }, kinds := [], alts := [], laidByText := true, laidKinds := [.data, .pinned], laidTests := true, laidLooks := .later }
def IndentlexKeysCardSaid : Prop := Claim7.holds Tryz.pinned (.plain (OpenSpec.ofChange indentlexKeysSpec)) indentlexKeysCard

/-- THE TIED CARD OF 'datakitlaw21.IndentlexQuotes'. -/
def indentlexQuotesCard : Claim7 := { stood := { row := indentlexQuotesRow, standIns := [], harness := (true, "9e7ff4792e74a8f011e3ff23f87f676ab4b557c64a3cde809f97a71c988d1849"), looks := false }, kinds := [], alts := [], laidByText := true, laidKinds := [.data, .pinned], laidTests := true, laidLooks := .later }
def IndentlexQuotesCardSaid : Prop := Claim7.holds Tryz.pinned (.plain (OpenSpec.ofChange indentlexQuotesSpec)) indentlexQuotesCard

/-- THE TIED CARD OF 'datakitlaw21.IndentlexBack'. -/
def indentlexBackCard : Claim7 := { stood := { row := indentlexBackRow, standIns := [], harness := (true, "9e7ff4792e74a8f011e3ff23f87f676ab4b557c64a3cde809f97a71c988d1849"), looks := false }, kinds := [], alts := [], laidByText := true, laidKinds := [.data, .pinned], laidTests := true, laidLooks := .later }
def IndentlexBackCardSaid : Prop := Claim7.holds Tryz.pinned (.plain (OpenSpec.ofChange indentlexBackSpec)) indentlexBackCard

/-- THE TIED CARD OF 'datakitlaw21.IndentlexJoin'. -/
def indentlexJoinCard : Claim7 := { stood := { row := indentlexJoinRow, standIns := [], harness := (true, "9e7ff4792e74a8f011e3ff23f87f676ab4b557c64a3cde809f97a71c988d1849"), looks := false }, kinds := [], alts := [], laidByText := true, laidKinds := [.data, .pinned], laidTests := true, laidLooks := .later }
def IndentlexJoinCardSaid : Prop := Claim7.holds Tryz.pinned (.plain (OpenSpec.ofChange indentlexJoinSpec)) indentlexJoinCard

/-- THE TIED CARD OF 'datakitlaw21.IndentlexShows'. -/
def indentlexShowsCard : Claim7 := { stood := { row := indentlexShowsRow, standIns := [], harness := (true, "9e7ff4792e74a8f011e3ff23f87f676ab4b557c64a3cde809f97a71c988d1849"), looks := false }, kinds := [], alts := [], laidByText := true, laidKinds := [.data, .pinned], laidTests := true, laidLooks := .later }
def IndentlexShowsCardSaid : Prop := Claim7.holds Tryz.pinned (.plain (OpenSpec.ofChange indentlexShowsSpec)) indentlexShowsCard

/-- THE TIED CARD OF 'datakitlaw21.IndentlexTold'. -/
def indentlexToldCard : Claim7 := { stood := { row := indentlexToldRow, standIns := [], harness := (true, "9e7ff4792e74a8f011e3ff23f87f676ab4b557c64a3cde809f97a71c988d1849"), looks := false }, kinds := [], alts := [], laidByText := true, laidKinds := [.data, .pinned], laidTests := true, laidLooks := .later }
def IndentlexToldCardSaid : Prop := Claim7.holds Tryz.pinned (.plain (OpenSpec.ofChange indentlexToldSpec)) indentlexToldCard

/-- THE SECOND FORM's CARD OF 'datakitlaw21.IndentlexLines'. -/
def indentlexLinesUptoCard : Claim7 := { stood := { row := indentlexLinesUptoRow, standIns := [], harness := (true, "9e7ff4792e74a8f011e3ff23f87f676ab4b557c64a3cde809f97a71c988d1849"), looks := false }, kinds := [], alts := [], laidByText := true, laidKinds := [.data, .pinned], laidTests := true, laidLooks := .later }
def IndentlexLinesUptoCardSaid : Prop := Claim7.holds Tryz.pinned (.plain (OpenSpec.upto indentlexLinesSpec)) indentlexLinesUptoCard

/-- THE SECOND FORM's CARD OF 'datakitlaw21.IndentlexScalars'. -/
def indentlexScalarsUptoCard : Claim7 := { stood := { row := indentlexScalarsUptoRow, standIns := [], harness := (true, "9e7ff4792e74a8f011e3ff23f87f676ab4b557c64a3cde809f97a71c988d1849"), looks := false }, kinds := [], alts := [], laidByText := true, laidKinds := [.data, .pinned], laidTests := true, laidLooks := .later }
def IndentlexScalarsUptoCardSaid : Prop := Claim7.holds Tryz.pinned (.plain (OpenSpec.upto indentlexScalarsSpec)) indentlexScalarsUptoCard

/-- THE SECOND FORM's CARD OF 'datakitlaw21.IndentlexKeys'. -/
def indentlexKeysUptoCard : Claim7 := { stood := { row := indentlexKeysUptoRow, standIns := [], harness := (true, "9e7ff4792e74a8f011e3ff23f87f676ab4b557c64a3cde809f97a71c988d1849"), looks := false }, kinds := [], alts := [], laidByText := true, laidKinds := [.data, .pinned], laidTests := true, laidLooks := .later }
def IndentlexKeysUptoCardSaid : Prop := Claim7.holds Tryz.pinned (.plain (OpenSpec.upto indentlexKeysSpec)) indentlexKeysUptoCard

/-- THE SECOND FORM's CARD OF 'datakitlaw21.IndentlexQuotes'. -/
def indentlexQuotesUptoCard : Claim7 := { stood := { row := indentlexQuotesUptoRow, standIns := [], harness := (true, "9e7ff4792e74a8f011e3ff23f87f676ab4b557c64a3cde809f97a71c988d1849"), looks := false }, kinds := [], alts := [], laidByText := true, laidKinds := [.data, .pinned], laidTests := true, laidLooks := .later }
def IndentlexQuotesUptoCardSaid : Prop := Claim7.holds Tryz.pinned (.plain (OpenSpec.upto indentlexQuotesSpec)) indentlexQuotesUptoCard

/-- THE SECOND FORM's CARD OF 'datakitlaw21.IndentlexBack'. -/
def indentlexBackUptoCard : Claim7 := { stood := { row := indentlexBackUptoRow, standIns := [], harness := (true, "9e7ff4792e74a8f011e3ff23f87f676ab4b557c64a3cde809f97a71c988d1849"), looks := false }, kinds := [], alts := [], laidByText := true, laidKinds := [.data, .pinned], laidTests := true, laidLooks := .later }
def IndentlexBackUptoCardSaid : Prop := Claim7.holds Tryz.pinned (.plain (OpenSpec.upto indentlexBackSpec)) indentlexBackUptoCard

/-- THE SECOND FORM's CARD OF 'datakitlaw21.IndentlexJoin'. -/
def indentlexJoinUptoCard : Claim7 := { stood := { row := indentlexJoinUptoRow, standIns := [], harness := (true, "9e7ff4792e74a8f011e3ff23f87f676ab4b557c64a3cde809f97a71c988d1849"), looks := false }, kinds := [], alts := [], laidByText := true, laidKinds := [.data, .pinned], laidTests := true, laidLooks := .later }
def IndentlexJoinUptoCardSaid : Prop := Claim7.holds Tryz.pinned (.plain (OpenSpec.upto indentlexJoinSpec)) indentlexJoinUptoCard

/-- THE SECOND FORM's CARD OF 'datakitlaw21.IndentlexShows'. -/
def indentlexShowsUptoCard : Claim7 := { stood := { row := indentlexShowsUptoRow, standIns := [], harness := (true, "9e7ff4792e74a8f011e3ff23f87f676ab4b557c64a3cde809f97a71c988d1849"), looks := false }, kinds := [], alts := [], laidByText := true, laidKinds := [.data, .pinned], laidTests := true, laidLooks := .later }
def IndentlexShowsUptoCardSaid : Prop := Claim7.holds Tryz.pinned (.plain (OpenSpec.upto indentlexShowsSpec)) indentlexShowsUptoCard

/-- THE SECOND FORM's CARD OF 'datakitlaw21.IndentlexTold'. -/
def indentlexToldUptoCard : Claim7 := { stood := { row := indentlexToldUptoRow, standIns := [], harness := (true, "9e7ff4792e74a8f011e3ff23f87f676ab4b557c64a3cde809f97a71c988d1849"), looks := false }, kinds := [], alts := [], laidByText := true, laidKinds := [.data, .pinned], laidTests := true, laidLooks := .later }
def IndentlexToldUptoCardSaid : Prop := Claim7.holds Tryz.pinned (.plain (OpenSpec.upto indentlexToldSpec)) indentlexToldUptoCard
end Rows
end Go.Proofs.YtgddhkanfcpipaaGreatDoor
