/-
  DERIVED. GIVEN WITH THE SEED: THE CARDS: each row of YthdninnjjmhpfaaDoorRows.lean that lists a variable, with what it lists TIED to the program's text (the seventh form; the later family's looks); each row that meets fmt, with fmt's text TOLD by the authors' own Lean function (tested against real Go, not proved from fmt's source: count such statements apart). THE CARD IS WHAT COUNTS. Prove the row's statement (the work); the ties are given (YthdninnjjmhpfaaDoorTie.lean); close each card by the builder's one call (the guide's Derived/Test/ToyasCard.lean, 'card_holds'). Laid BY PROGRAM, IN A SANDBOX (cutbox-door.mjs). By AI agents, Wed Nov 11 2026. No macro, syntax, notation, axiom, sorry.
-/
import Derived.Test.YthdninnjjmhpfaaDoorRows
import GoSem.ClaimSeven
namespace Go.Proofs.YthdninnjjmhpfaaDoor
namespace Rows

/-- THE TIED CARD OF 'datakitlaw56.PatchChecks'. -/
def patchChecksCard : Claim7 := { stood := { row := patchChecksRow, standIns := [], harness := (true, "12e804d9caac42710f5dfd32f8c289dc55fb1310bde6177a0ea448380a780dd3"), looks := false }, kinds := [], alts := [], laidByText := true, laidKinds := [.data, .pinned], laidTests := true, laidLooks := .later }
def PatchChecksCardSaid : Prop := Claim7.holds Tryd.pinned (.plain (OpenSpec.ofChange patchChecksSpec)) patchChecksCard

/-- THE TIED CARD OF 'datakitlaw56.PatchMany'. -/
def patchManyCard : Claim7 := { stood := { row := patchManyRow, standIns := [], harness := (true, "12e804d9caac42710f5dfd32f8c289dc55fb1310bde6177a0ea448380a780dd3"), looks := false }, kinds := [], alts := [], laidByText := true, laidKinds := [.data, .pinned], laidTests := true, laidLooks := .later }
def PatchManyCardSaid : Prop := Claim7.holds Tryd.pinned (.plain (OpenSpec.ofChange patchManySpec)) patchManyCard

/-- THE SECOND FORM's CARD OF 'datakitlaw56.PatchChecks'. -/
def patchChecksUptoCard : Claim7 := { stood := { row := patchChecksUptoRow, standIns := [], harness := (true, "12e804d9caac42710f5dfd32f8c289dc55fb1310bde6177a0ea448380a780dd3"), looks := false }, kinds := [], alts := [], laidByText := true, laidKinds := [.data, .pinned], laidTests := true, laidLooks := .later }
def PatchChecksUptoCardSaid : Prop := Claim7.holds Tryd.pinned (.plain (OpenSpec.upto patchChecksSpec)) patchChecksUptoCard

/-- THE SECOND FORM's CARD OF 'datakitlaw56.PatchMany'. -/
def patchManyUptoCard : Claim7 := { stood := { row := patchManyUptoRow, standIns := [], harness := (true, "12e804d9caac42710f5dfd32f8c289dc55fb1310bde6177a0ea448380a780dd3"), looks := false }, kinds := [], alts := [], laidByText := true, laidKinds := [.data, .pinned], laidTests := true, laidLooks := .later }
def PatchManyUptoCardSaid : Prop := Claim7.holds Tryd.pinned (.plain (OpenSpec.upto patchManySpec)) patchManyUptoCard
end Rows
end Go.Proofs.YthdninnjjmhpfaaDoor
