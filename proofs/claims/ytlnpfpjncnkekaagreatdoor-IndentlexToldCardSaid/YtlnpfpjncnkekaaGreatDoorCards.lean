/-
  DERIVED. GIVEN WITH THE SEED: THE CARDS: each row of YtlnpfpjncnkekaaGreatDoorRows.lean that lists a variable, with what it lists TIED to the program's text (the seventh form; the later family's looks); each row that meets fmt, with fmt's text TOLD by the authors' own Lean function (tested against real Go, not proved from fmt's source: count such statements apart). THE CARD IS WHAT COUNTS. Prove the row's statement (the work); the ties are given (YtlnpfpjncnkekaaGreatDoorTie.lean); close each card by the builder's one call (the guide's Derived/Test/ToyasCard.lean, 'card_holds'). Laid BY PROGRAM, IN A SANDBOX (cutbox-door.mjs). By AI agents, Wed Nov 11 2026. No macro, syntax, notation, axiom, sorry.
-/
import Derived.Test.YtlnpfpjncnkekaaGreatDoorRows
import GoSem.ClaimSeven
namespace Go.Proofs.YtlnpfpjncnkekaaGreatDoor
namespace Rows

/-- THE TIED CARD OF 'datakitlaw21.IndentlexShows'. -/
def indentlexShowsCard : Claim7 := { stood := { row := indentlexShowsRow, standIns := [], harness := (true, "77564181cce3d71900ec7b0c566020694bec4a82b0a3d82e6082ef66865590db"), looks := false }, kinds := [], alts := [], laidByText := true, laidKinds := [.data, .pinned], laidTests := true, laidLooks := .later }
def IndentlexShowsCardSaid : Prop := Claim7.holds Tryz.pinned (.plain (OpenSpec.ofChange indentlexShowsSpec)) indentlexShowsCard

/-- THE TIED CARD OF 'datakitlaw21.IndentlexTold'. -/
def indentlexToldCard : Claim7 := { stood := { row := indentlexToldRow, standIns := [], harness := (true, "77564181cce3d71900ec7b0c566020694bec4a82b0a3d82e6082ef66865590db"), looks := false }, kinds := [], alts := [], laidByText := true, laidKinds := [.data, .pinned], laidTests := true, laidLooks := .later }
def IndentlexToldCardSaid : Prop := Claim7.holds Tryz.pinned (.plain (OpenSpec.ofChange indentlexToldSpec)) indentlexToldCard

/-- THE SECOND FORM's CARD OF 'datakitlaw21.IndentlexShows'. -/
def indentlexShowsUptoCard : Claim7 := { stood := { row := indentlexShowsUptoRow, standIns := [], harness := (true, "77564181cce3d71900ec7b0c566020694bec4a82b0a3d82e6082ef66865590db"), looks := false }, kinds := [], alts := [], laidByText := true, laidKinds := [.data, .pinned], laidTests := true, laidLooks := .later }
def IndentlexShowsUptoCardSaid : Prop := Claim7.holds Tryz.pinned (.plain (OpenSpec.upto indentlexShowsSpec)) indentlexShowsUptoCard

/-- THE SECOND FORM's CARD OF 'datakitlaw21.IndentlexTold'. -/
def indentlexToldUptoCard : Claim7 := { stood := { row := indentlexToldUptoRow, standIns := [], harness := (true, "77564181cce3d71900ec7b0c566020694bec4a82b0a3d82e6082ef66865590db"), looks := false }, kinds := [], alts := [], laidByText := true, laidKinds := [.data, .pinned], laidTests := true, laidLooks := .later }
def IndentlexToldUptoCardSaid : Prop := Claim7.holds Tryz.pinned (.plain (OpenSpec.upto indentlexToldSpec)) indentlexToldUptoCard
end Rows
end Go.Proofs.YtlnpfpjncnkekaaGreatDoor
