/-
  DERIVED. GIVEN WITH THE SEED: THE CARDS: each row of YtmafggfonapmpaaDoorRows.lean that lists a variable, with what it lists TIED to the program's text (the seventh form; the later family's looks); each row that meets fmt, with fmt's text TOLD by the authors' own Lean function (tested against real Go, not proved from fmt's source: count such statements apart). THE CARD IS WHAT COUNTS. Prove the row's statement (the work); the ties are given (YtmafggfonapmpaaDoorTie.lean); close each card by the builder's one call (the guide's Derived/Test/ToyasCard.lean, 'card_holds'). Laid BY PROGRAM, IN A SANDBOX (cutbox-door.mjs). By AI agents, Wed Nov 11 2026. No macro, syntax, notation, axiom, sorry.
-/
import Derived.Test.YtmafggfonapmpaaDoorRows
import GoSem.ClaimSeven
namespace Go.Proofs.YtmafggfonapmpaaDoor
namespace Rows

/-- THE TIED CARD OF 'datakitlaw19.BracelexNumbers'. -/
def bracelexNumbersCard : Claim7 := { stood := { row := bracelexNumbersRow, standIns := [], harness := (true, "9e535de24da5a82954bb7318b681d8fdc06c20280d75acd795aea703c3bc2c68"), looks := false }, kinds := [], alts := [], laidByText := true, laidKinds := [.data, .pinned], laidTests := true, laidLooks := .later }
def BracelexNumbersCardSaid : Prop := Claim7.holds Tryd.pinned (.plain (OpenSpec.ofChange bracelexNumbersSpec)) bracelexNumbersCard

/-- THE SECOND FORM's CARD OF 'datakitlaw19.BracelexNumbers'. -/
def bracelexNumbersUptoCard : Claim7 := { stood := { row := bracelexNumbersUptoRow, standIns := [], harness := (true, "9e535de24da5a82954bb7318b681d8fdc06c20280d75acd795aea703c3bc2c68"), looks := false }, kinds := [], alts := [], laidByText := true, laidKinds := [.data, .pinned], laidTests := true, laidLooks := .later }
def BracelexNumbersUptoCardSaid : Prop := Claim7.holds Tryd.pinned (.plain (OpenSpec.upto bracelexNumbersSpec)) bracelexNumbersUptoCard
end Rows
end Go.Proofs.YtmafggfonapmpaaDoor
