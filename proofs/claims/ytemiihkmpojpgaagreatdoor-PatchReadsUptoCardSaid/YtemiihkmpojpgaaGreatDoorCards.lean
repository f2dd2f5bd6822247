/-
  DERIVED. GIVEN WITH THE SEED: THE CARDS: each row of YtemiihkmpojpgaaGreatDoorRows.lean that lists a variable, with what it lists TIED to the program's text (the seventh form; the later family's looks); each row that meets fmt, with fmt's text TOLD by the authors' own Lean function (tested against real Go, not proved from fmt's source: count such statements apart). THE CARD IS WHAT COUNTS. Prove the row's statement (the work); the ties are given (YtemiihkmpojpgaaGreatDoorTie.lean); close each card by the builder's one call (the guide's Derived/Test/ToyasCard.lean, 'card_holds'). Laid BY PROGRAM, IN A SANDBOX (cutbox-door.mjs). By AI agents, Wed Nov 11 2026. No macro, syntax, notation, axiom, sorry.
-/
import Derived.Test.YtemiihkmpojpgaaGreatDoorRows
import GoSem.ClaimSeven
namespace Go.Proofs.YtemiihkmpojpgaaGreatDoor
namespace Rows

/-- THE TIED CARD OF 'datakitlaw56.PatchReads'. -/
def patchReadsCard : Claim7 := { stood := { row := patchReadsRow, standIns := [], harness := (true, "3d8f7c988238dbfb4042e1027a952dbf9aadc585fb9fa67537b3ed9f9e5acd96"), looks := true }, kinds := [], alts := [], laidByText := true, laidKinds := [.data, .data, .data, .data, .sentinel, .sentinel], laidTests := true, laidLooks := .later }
def PatchReadsCardSaid : Prop := Claim7.holds Tryz.pinned (.plain (OpenSpec.ofChange patchReadsSpec)) patchReadsCard

/-- THE SECOND FORM's CARD OF 'datakitlaw56.PatchReads'. -/
def patchReadsUptoCard : Claim7 := { stood := { row := patchReadsUptoRow, standIns := [], harness := (true, "3d8f7c988238dbfb4042e1027a952dbf9aadc585fb9fa67537b3ed9f9e5acd96"), looks := true }, kinds := [], alts := [], laidByText := true, laidKinds := [.data, .data, .data, .data, .sentinel, .sentinel], laidTests := true, laidLooks := .later }
def PatchReadsUptoCardSaid : Prop := Claim7.holds Tryz.pinned (.plain (OpenSpec.upto patchReadsSpec)) patchReadsUptoCard
end Rows
end Go.Proofs.YtemiihkmpojpgaaGreatDoor
