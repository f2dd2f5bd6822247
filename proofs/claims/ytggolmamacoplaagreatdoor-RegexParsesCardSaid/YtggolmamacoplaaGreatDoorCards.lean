/-
  DERIVED. GIVEN WITH THE SEED: THE CARDS: each row of YtggolmamacoplaaGreatDoorRows.lean that lists a variable, with what it lists TIED to the program's text (the seventh form; the later family's looks); each row that meets fmt, with fmt's text TOLD by the authors' own Lean function (tested against real Go, not proved from fmt's source: count such statements apart). THE CARD IS WHAT COUNTS. Prove the row's statement (the work); the ties are given (YtggolmamacoplaaGreatDoorTie.lean); close each card by the builder's one call (the guide's Derived/Test/ToyasCard.lean, 'card_holds'). Laid BY PROGRAM, IN A SANDBOX (cutbox-door.mjs). By AI agents, Wed Nov 11 2026. No macro, syntax, notation, axiom, sorry.
-/
import Derived.Test.YtggolmamacoplaaGreatDoorRows
import GoSem.ClaimSeven
namespace Go.Proofs.YtggolmamacoplaaGreatDoor
namespace Rows

/-- THE TIED CARD OF 'datakitlaw15.RegexParses'. -/
def regexParsesCard : Claim7 := { stood := { row := regexParsesRow, standIns := [], harness := (true, "6ff6a63da00868a0f622bec8a29c0323b4841bb7c405e4767d57d2c5fbf26867"), looks := true }, kinds := [], alts := [], laidByText := true, laidKinds := [.data, .data, .data, .sentinel, .sentinel], laidTests := true, laidLooks := .later }
def RegexParsesCardSaid : Prop := Claim7.holds Tryz.pinned (.plain (OpenSpec.ofChange regexParsesSpec)) regexParsesCard

/-- THE SECOND FORM's CARD OF 'datakitlaw15.RegexParses'. -/
def regexParsesUptoCard : Claim7 := { stood := { row := regexParsesUptoRow, standIns := [], harness := (true, "6ff6a63da00868a0f622bec8a29c0323b4841bb7c405e4767d57d2c5fbf26867"), looks := true }, kinds := [], alts := [], laidByText := true, laidKinds := [.data, .data, .data, .sentinel, .sentinel], laidTests := true, laidLooks := .later }
def RegexParsesUptoCardSaid : Prop := Claim7.holds Tryz.pinned (.plain (OpenSpec.upto regexParsesSpec)) regexParsesUptoCard
end Rows
end Go.Proofs.YtggolmamacoplaaGreatDoor
