/-
  DERIVED. GIVEN WITH THE SEED: THE CARDS: each row of YtggolmamacoplaaDoorRows.lean that lists a variable, with what it lists TIED to the program's text (the seventh form; the later family's looks); each row that meets fmt, with fmt's text TOLD by the authors' own Lean function (tested against real Go, not proved from fmt's source: count such statements apart). THE CARD IS WHAT COUNTS. Prove the row's statement (the work); the ties are given (YtggolmamacoplaaDoorTie.lean); close each card by the builder's one call (the guide's Derived/Test/ToyasCard.lean, 'card_holds'). Laid BY PROGRAM, IN A SANDBOX (cutbox-door.mjs). By AI agents, Wed Nov 11 2026. No macro, syntax, notation, axiom, sorry.
-/
import Derived.Test.YtggolmamacoplaaDoorRows
import GoSem.ClaimSeven
namespace Go.Proofs.YtggolmamacoplaaDoor
namespace Rows

/-- THE TIED CARD OF 'datakitlaw15.RegexTexts'. -/
def regexTextsCard : Claim7 := { stood := { row := regexTextsRow, standIns := [], harness := (true, "077cea5358ae26c46424efc36285272d937c2a1abbc2a854b3c8fbf34a0356af"), looks := true }, kinds := [], alts := [], laidByText := true, laidKinds := [.data, .data, .data, .sentinel, .sentinel], laidTests := true, laidLooks := .later }
def RegexTextsCardSaid : Prop := Claim7.holds Tryd.pinned (.plain (OpenSpec.ofChange regexTextsSpec)) regexTextsCard

/-- THE TIED CARD OF 'datakitlaw15.RegexMatches'. -/
def regexMatchesCard : Claim7 := { stood := { row := regexMatchesRow, standIns := [], harness := (true, "077cea5358ae26c46424efc36285272d937c2a1abbc2a854b3c8fbf34a0356af"), looks := true }, kinds := [], alts := [], laidByText := true, laidKinds := [.data, .data, .data, .sentinel, .sentinel], laidTests := true, laidLooks := .later }
def RegexMatchesCardSaid : Prop := Claim7.holds Tryd.pinned (.plain (OpenSpec.ofChange regexMatchesSpec)) regexMatchesCard

/-- THE TIED CARD OF 'datakitlaw15.RegexDerives'. -/
def regexDerivesCard : Claim7 := { stood := { row := regexDerivesRow, standIns := [], harness := (true, "077cea5358ae26c46424efc36285272d937c2a1abbc2a854b3c8fbf34a0356af"), looks := true }, kinds := [], alts := [], laidByText := true, laidKinds := [.data, .data, .data, .sentinel, .sentinel], laidTests := true, laidLooks := .later }
def RegexDerivesCardSaid : Prop := Claim7.holds Tryd.pinned (.plain (OpenSpec.ofChange regexDerivesSpec)) regexDerivesCard

/-- THE TIED CARD OF 'datakitlaw15.RegexBack'. -/
def regexBackCard : Claim7 := { stood := { row := regexBackRow, standIns := [], harness := (true, "077cea5358ae26c46424efc36285272d937c2a1abbc2a854b3c8fbf34a0356af"), looks := true }, kinds := [], alts := [], laidByText := true, laidKinds := [.data, .data, .data, .sentinel, .sentinel], laidTests := true, laidLooks := .later }
def RegexBackCardSaid : Prop := Claim7.holds Tryd.pinned (.plain (OpenSpec.ofChange regexBackSpec)) regexBackCard

/-- THE TIED CARD OF 'datakitlaw15.RegexValids'. -/
def regexValidsCard : Claim7 := { stood := { row := regexValidsRow, standIns := [], harness := (true, "077cea5358ae26c46424efc36285272d937c2a1abbc2a854b3c8fbf34a0356af"), looks := true }, kinds := [], alts := [], laidByText := true, laidKinds := [.data, .data, .data, .sentinel, .sentinel], laidTests := true, laidLooks := .later }
def RegexValidsCardSaid : Prop := Claim7.holds Tryd.pinned (.plain (OpenSpec.ofChange regexValidsSpec)) regexValidsCard

/-- THE TIED CARD OF 'datakitlaw15.RegexLiterals'. -/
def regexLiteralsCard : Claim7 := { stood := { row := regexLiteralsRow, standIns := [], harness := (true, "077cea5358ae26c46424efc36285272d937c2a1abbc2a854b3c8fbf34a0356af"), looks := true }, kinds := [], alts := [], laidByText := true, laidKinds := [.data, .data, .data, .sentinel, .sentinel], laidTests := true, laidLooks := .later }
def RegexLiteralsCardSaid : Prop := Claim7.holds Tryd.pinned (.plain (OpenSpec.ofChange regexLiteralsSpec)) regexLiteralsCard

/-- THE TIED CARD OF 'datakitlaw15.RegexReverses'. -/
def regexReversesCard : Claim7 := { stood := { row := regexReversesRow, standIns := [], harness := (true, "077cea5358ae26c46424efc36285272d937c2a1abbc2a854b3c8fbf34a0356af"), looks := true }, kinds := [], alts := [], laidByText := true, laidKinds := [.data, .data, .data, .sentinel, .sentinel], laidTests := true, laidLooks := .later }
def RegexReversesCardSaid : Prop := Claim7.holds Tryd.pinned (.plain (OpenSpec.ofChange regexReversesSpec)) regexReversesCard

/-- THE SECOND FORM's CARD OF 'datakitlaw15.RegexTexts'. -/
def regexTextsUptoCard : Claim7 := { stood := { row := regexTextsUptoRow, standIns := [], harness := (true, "077cea5358ae26c46424efc36285272d937c2a1abbc2a854b3c8fbf34a0356af"), looks := true }, kinds := [], alts := [], laidByText := true, laidKinds := [.data, .data, .data, .sentinel, .sentinel], laidTests := true, laidLooks := .later }
def RegexTextsUptoCardSaid : Prop := Claim7.holds Tryd.pinned (.plain (OpenSpec.upto regexTextsSpec)) regexTextsUptoCard

/-- THE SECOND FORM's CARD OF 'datakitlaw15.RegexMatches'. -/
def regexMatchesUptoCard : Claim7 := { stood := { row := regexMatchesUptoRow, standIns := [], harness := (true, "077cea5358ae26c46424efc36285272d937c2a1abbc2a854b3c8fbf34a0356af"), looks := true }, kinds := [], alts := [], laidByText := true, laidKinds := [.data, .data, .data, .sentinel, .sentinel], laidTests := true, laidLooks := .later }
def RegexMatchesUptoCardSaid : Prop := Claim7.holds Tryd.pinned (.plain (OpenSpec.upto regexMatchesSpec)) regexMatchesUptoCard

/-- THE SECOND FORM's CARD OF 'datakitlaw15.RegexDerives'. -/
def regexDerivesUptoCard : Claim7 := { stood := { row := regexDerivesUptoRow, standIns := [], harness := (true, "077cea5358ae26c46424efc36285272d937c2a1abbc2a854b3c8fbf34a0356af"), looks := true }, kinds := [], alts := [], laidByText := true, laidKinds := [.data, .data, .data, .sentinel, .sentinel], laidTests := true, laidLooks := .later }
def RegexDerivesUptoCardSaid : Prop := Claim7.holds Tryd.pinned (.plain (OpenSpec.upto regexDerivesSpec)) regexDerivesUptoCard

/-- THE SECOND FORM's CARD OF 'datakitlaw15.RegexBack'. -/
def regexBackUptoCard : Claim7 := { stood := { row := regexBackUptoRow, standIns := [], harness := (true, "077cea5358ae26c46424efc36285272d937c2a1abbc2a854b3c8fbf34a0356af"), looks := true }, kinds := [], alts := [], laidByText := true, laidKinds := [.data, .data, .data, .sentinel, .sentinel], laidTests := true, laidLooks := .later }
def RegexBackUptoCardSaid : Prop := Claim7.holds Tryd.pinned (.plain (OpenSpec.upto regexBackSpec)) regexBackUptoCard

/-- THE SECOND FORM's CARD OF 'datakitlaw15.RegexValids'. -/
def regexValidsUptoCard : Claim7 := { stood := { row := regexValidsUptoRow, standIns := [], harness := (true, "077cea5358ae26c46424efc36285272d937c2a1abbc2a854b3c8fbf34a0356af"), looks := true }, kinds := [], alts := [], laidByText := true, laidKinds := [.data, .data, .data, .sentinel, .sentinel], laidTests := true, laidLooks := .later }
def RegexValidsUptoCardSaid : Prop := Claim7.holds Tryd.pinned (.plain (OpenSpec.upto regexValidsSpec)) regexValidsUptoCard

/-- THE SECOND FORM's CARD OF 'datakitlaw15.RegexLiterals'. -/
def regexLiteralsUptoCard : Claim7 := { stood := { row := regexLiteralsUptoRow, standIns := [], harness := (true, "077cea5358ae26c46424efc36285272d937c2a1abbc2a854b3c8fbf34a0356af"), looks := true }, kinds := [], alts := [], laidByText := true, laidKinds := [.data, .data, .data, .sentinel, .sentinel], laidTests := true, laidLooks := .later }
def RegexLiteralsUptoCardSaid : Prop := Claim7.holds Tryd.pinned (.plain (OpenSpec.upto regexLiteralsSpec)) regexLiteralsUptoCard

/-- THE SECOND FORM's CARD OF 'datakitlaw15.RegexReverses'. -/
def regexReversesUptoCard : Claim7 := { stood := { row := regexReversesUptoRow, standIns := [], harness := (true, "077cea5358ae26c46424efc36285272d937c2a1abbc2a854b3c8fbf34a0356af"), looks := true }, kinds := [], alts := [], laidByText := true, laidKinds := [.data, .data, .data, .sentinel, .sentinel], laidTests := true, laidLooks := .later }
def RegexReversesUptoCardSaid : Prop := Claim7.holds Tryd.pinned (.plain (OpenSpec.upto regexReversesSpec)) regexReversesUptoCard
end Rows
end Go.Proofs.YtggolmamacoplaaDoor
