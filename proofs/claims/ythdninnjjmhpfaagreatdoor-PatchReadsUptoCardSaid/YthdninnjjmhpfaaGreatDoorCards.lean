/-
  DERIVED. GIVEN WITH THE SEED: THE CARDS: each row of YthdninnjjmhpfaaGreatDoorRows.lean that lists a variable, with what it lists TIED to the program's text (the seventh form; the later family's looks); each row that meets fmt, with fmt's text TOLD by the authors' own Lean function (tested against real Go, not proved from fmt's source: count such statements apart). THE CARD IS WHAT COUNTS. Prove the row's statement (the work); the ties are given (YthdninnjjmhpfaaGreatDoorTie.lean); close each card by the builder's one call (the guide's Derived/Test/ToyasCard.lean, 'card_holds'). Laid BY PROGRAM, IN A SANDBOX (cutbox-door.mjs). By AI agents, Wed Nov 11 2026. No macro, syntax, notation, axiom, sorry.
-/
import Derived.Test.YthdninnjjmhpfaaGreatDoorRows
import GoSem.ClaimSeven
namespace Go.Proofs.YthdninnjjmhpfaaGreatDoor
namespace Rows

/-- THE TIED CARD OF 'datakitlaw56.PatchApplies'. -/
def patchAppliesCard : Claim7 := { stood := { row := patchAppliesRow, standIns := [], harness := (true, "847af15a2cbfdf32f1b770cb834bfbdf7d60bde023d46e979399196cac0ce28e"), looks := true }, kinds := [], alts := [], laidByText := true, laidKinds := [.data, .pinned], laidTests := true, laidLooks := .later }
def PatchAppliesCardSaid : Prop := Claim7.holds Tryz.pinned (.plain (OpenSpec.ofChange patchAppliesSpec)) patchAppliesCard

/-- THE TIED CARD OF 'datakitlaw56.PatchReads'. -/
def patchReadsCard : Claim7 := { stood := { row := patchReadsRow, standIns := [], harness := (true, "847af15a2cbfdf32f1b770cb834bfbdf7d60bde023d46e979399196cac0ce28e"), looks := true }, kinds := [], alts := [], laidByText := true, laidKinds := [.data, .data, .data, .data, .sentinel, .sentinel], laidTests := true, laidLooks := .later }
def PatchReadsCardSaid : Prop := Claim7.holds Tryz.pinned (.plain (OpenSpec.ofChange patchReadsSpec)) patchReadsCard

/-- THE TIED CARD OF 'datakitlaw56.PatchWrites'. -/
def patchWritesCard : Claim7 := { stood := { row := patchWritesRow, standIns := [], harness := (true, "847af15a2cbfdf32f1b770cb834bfbdf7d60bde023d46e979399196cac0ce28e"), looks := true }, kinds := [], alts := [], laidByText := true, laidKinds := [.data, .data, .data, .data, .data, .pinned], laidTests := true, laidLooks := .later }
def PatchWritesCardSaid : Prop := Claim7.holds Tryz.pinned (.plain (OpenSpec.ofChange patchWritesSpec)) patchWritesCard

/-- THE TIED CARD OF 'datakitlaw56.PatchCommutes'. -/
def patchCommutesCard : Claim7 := { stood := { row := patchCommutesRow, standIns := [], harness := (true, "847af15a2cbfdf32f1b770cb834bfbdf7d60bde023d46e979399196cac0ce28e"), looks := true }, kinds := [], alts := [], laidByText := true, laidKinds := [.data, .pinned], laidTests := true, laidLooks := .later }
def PatchCommutesCardSaid : Prop := Claim7.holds Tryz.pinned (.plain (OpenSpec.ofChange patchCommutesSpec)) patchCommutesCard

/-- THE SECOND FORM's CARD OF 'datakitlaw56.PatchApplies'. -/
def patchAppliesUptoCard : Claim7 := { stood := { row := patchAppliesUptoRow, standIns := [], harness := (true, "847af15a2cbfdf32f1b770cb834bfbdf7d60bde023d46e979399196cac0ce28e"), looks := true }, kinds := [], alts := [], laidByText := true, laidKinds := [.data, .pinned], laidTests := true, laidLooks := .later }
def PatchAppliesUptoCardSaid : Prop := Claim7.holds Tryz.pinned (.plain (OpenSpec.upto patchAppliesSpec)) patchAppliesUptoCard

/-- THE SECOND FORM's CARD OF 'datakitlaw56.PatchReads'. -/
def patchReadsUptoCard : Claim7 := { stood := { row := patchReadsUptoRow, standIns := [], harness := (true, "847af15a2cbfdf32f1b770cb834bfbdf7d60bde023d46e979399196cac0ce28e"), looks := true }, kinds := [], alts := [], laidByText := true, laidKinds := [.data, .data, .data, .data, .sentinel, .sentinel], laidTests := true, laidLooks := .later }
def PatchReadsUptoCardSaid : Prop := Claim7.holds Tryz.pinned (.plain (OpenSpec.upto patchReadsSpec)) patchReadsUptoCard

/-- THE SECOND FORM's CARD OF 'datakitlaw56.PatchWrites'. -/
def patchWritesUptoCard : Claim7 := { stood := { row := patchWritesUptoRow, standIns := [], harness := (true, "847af15a2cbfdf32f1b770cb834bfbdf7d60bde023d46e979399196cac0ce28e"), looks := true }, kinds := [], alts := [], laidByText := true, laidKinds := [.data, .data, .data, .data, .data, .pinned], laidTests := true, laidLooks := .later }
def PatchWritesUptoCardSaid : Prop := Claim7.holds Tryz.pinned (.plain (OpenSpec.upto patchWritesSpec)) patchWritesUptoCard

/-- THE SECOND FORM's CARD OF 'datakitlaw56.PatchCommutes'. -/
def patchCommutesUptoCard : Claim7 := { stood := { row := patchCommutesUptoRow, standIns := [], harness := (true, "847af15a2cbfdf32f1b770cb834bfbdf7d60bde023d46e979399196cac0ce28e"), looks := true }, kinds := [], alts := [], laidByText := true, laidKinds := [.data, .pinned], laidTests := true, laidLooks := .later }
def PatchCommutesUptoCardSaid : Prop := Claim7.holds Tryz.pinned (.plain (OpenSpec.upto patchCommutesSpec)) patchCommutesUptoCard
end Rows
end Go.Proofs.YthdninnjjmhpfaaGreatDoor
