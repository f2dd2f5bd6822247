/-
  No cell of these rows narrows 'for every input' (looked for: loops, veiled, ifaces, maps, wideKeys, modest, calm, conditions, laid).
  DERIVED. THE GIVEN ROWS OF THIS SEAT. 6 by the template 'for every input the law returns true; each argument reads behind the call as it read before'; 0 by the template 'total and deterministic' (their statements: YtmafggfonapmpaaTotals.lean).
  GIVEN WITH THE SEED: the statements are not yours to turn. If you find one false, say at which input.
  Laid BY PROGRAM, IN A SANDBOX (cutbox-rows.mjs): the forced cells as the released guide's own fill.sh prints them over the translation 9cd32e62cba3ee2c… (all of the seat's roots in one cut). By AI agents, Wed Nov 11 2026. No macro, syntax, notation, axiom, sorry.
-/
import Derived.Test.YtmafggfonapmpaaChecked
import GoSem.Claim
import GoSem.ClaimJoined
import GoSem.ClaimMapViews
import Derived.JoinedTies
import Derived.KernelRfl
namespace Go.Proofs.Ytmafggfonapmpaa
/- THE CELL 'sum', in the pinned program and in every row, IS THE sha256 OF THE DUMP (.gsa) THAT YtmafggfonapmpaaProg.lean LOADS. Nothing in Lean hashes anything: it is a label: what it is worth is what the hold of that sum in a sandbox is worth. -/
noncomputable def Try.pinned : Pinned := { name := "ytmafggfonapmpaa", sum := "9cd32e62cba3ee2c933c6793e16153ad2e87c07cf58417656b701dadfc5d6691", checked := Try.checked }
namespace Rows
def none {H : Type} : Left H := { results := [], args := [] }

/-- 'datakitlaw19.BracelexNexts': WHATEVER THE INPUT: true; the input reads as it did. -/
def bracelexNextsSpec : ChangeSpec := { name := "bracelexNexts", fn := fun _ => fun
  | [d1, d2] => { results := [.lit (.bool true)], args := [d1, d2] }
  | _ => none }
def bracelexNextsRow : OpenClaim := { program := "ytmafggfonapmpaa", sum := "9cd32e62cba3ee2c933c6793e16153ad2e87c07cf58417656b701dadfc5d6691", func := "datakit/datakitlaw19.BracelexNexts", spec := "bracelexNexts", inPlace := ["internal/bytealg.IndexByteString"], apart := false }
def BracelexNextsSaid : Prop := bracelexNextsRow.holds Try.pinned (OpenSpec.ofChange bracelexNextsSpec)

/-- ITS FALSE NEIGHBOUR: 'it returns false'. Refute it at one input. -/
def bracelexNextsWrong : ChangeSpec := { name := "bracelexNexts", fn := fun _ => fun
  | [d1, d2] => { results := [.lit (.bool false)], args := [d1, d2] }
  | _ => none }
def BracelexNextsWrongFalsely : Prop := bracelexNextsRow.holds Try.pinned (OpenSpec.ofChange bracelexNextsWrong)

/-- 'datakitlaw19.BracelexQuotes': WHATEVER THE INPUT: true; the input reads as it did. -/
def bracelexQuotesSpec : ChangeSpec := { name := "bracelexQuotes", fn := fun _ => fun
  | [d1, d2] => { results := [.lit (.bool true)], args := [d1, d2] }
  | _ => none }
def bracelexQuotesRow : OpenClaim := { program := "ytmafggfonapmpaa", sum := "9cd32e62cba3ee2c933c6793e16153ad2e87c07cf58417656b701dadfc5d6691", func := "datakit/datakitlaw19.BracelexQuotes", spec := "bracelexQuotes", inPlace := ["internal/bytealg.IndexByteString"], apart := false }
def BracelexQuotesSaid : Prop := bracelexQuotesRow.holds Try.pinned (OpenSpec.ofChange bracelexQuotesSpec)

/-- ITS FALSE NEIGHBOUR: 'it returns false'. Refute it at one input. -/
def bracelexQuotesWrong : ChangeSpec := { name := "bracelexQuotes", fn := fun _ => fun
  | [d1, d2] => { results := [.lit (.bool false)], args := [d1, d2] }
  | _ => none }
def BracelexQuotesWrongFalsely : Prop := bracelexQuotesRow.holds Try.pinned (OpenSpec.ofChange bracelexQuotesWrong)

/-- 'datakitlaw19.BracelexTokens': WHATEVER THE INPUT: true; the input reads as it did. -/
def bracelexTokensSpec : ChangeSpec := { name := "bracelexTokens", fn := fun _ => fun
  | [d] => { results := [.lit (.bool true)], args := [d] }
  | _ => none }
def bracelexTokensRow : OpenClaim := { program := "ytmafggfonapmpaa", sum := "9cd32e62cba3ee2c933c6793e16153ad2e87c07cf58417656b701dadfc5d6691", func := "datakit/datakitlaw19.BracelexTokens", spec := "bracelexTokens", inPlace := ["internal/bytealg.IndexByteString"], apart := false }
def BracelexTokensSaid : Prop := bracelexTokensRow.holds Try.pinned (OpenSpec.ofChange bracelexTokensSpec)

/-- ITS FALSE NEIGHBOUR: 'it returns false'. Refute it at one input. -/
def bracelexTokensWrong : ChangeSpec := { name := "bracelexTokens", fn := fun _ => fun
  | [d] => { results := [.lit (.bool false)], args := [d] }
  | _ => none }
def BracelexTokensWrongFalsely : Prop := bracelexTokensRow.holds Try.pinned (OpenSpec.ofChange bracelexTokensWrong)

/-- 'datakitlaw19.BracelexCut': WHATEVER THE INPUT: true; the input reads as it did. -/
def bracelexCutSpec : ChangeSpec := { name := "bracelexCut", fn := fun _ => fun
  | [d1, d2] => { results := [.lit (.bool true)], args := [d1, d2] }
  | _ => none }
def bracelexCutRow : OpenClaim := { program := "ytmafggfonapmpaa", sum := "9cd32e62cba3ee2c933c6793e16153ad2e87c07cf58417656b701dadfc5d6691", func := "datakit/datakitlaw19.BracelexCut", spec := "bracelexCut", inPlace := ["internal/bytealg.IndexByteString"], apart := false }
def BracelexCutSaid : Prop := bracelexCutRow.holds Try.pinned (OpenSpec.ofChange bracelexCutSpec)

/-- ITS FALSE NEIGHBOUR: 'it returns false'. Refute it at one input. -/
def bracelexCutWrong : ChangeSpec := { name := "bracelexCut", fn := fun _ => fun
  | [d1, d2] => { results := [.lit (.bool false)], args := [d1, d2] }
  | _ => none }
def BracelexCutWrongFalsely : Prop := bracelexCutRow.holds Try.pinned (OpenSpec.ofChange bracelexCutWrong)

/-- 'datakitlaw19.BracelexBack': WHATEVER THE INPUT: true; the input reads as it did. -/
def bracelexBackSpec : ChangeSpec := { name := "bracelexBack", fn := fun _ => fun
  | [d] => { results := [.lit (.bool true)], args := [d] }
  | _ => none }
def bracelexBackRow : OpenClaim := { program := "ytmafggfonapmpaa", sum := "9cd32e62cba3ee2c933c6793e16153ad2e87c07cf58417656b701dadfc5d6691", func := "datakit/datakitlaw19.BracelexBack", spec := "bracelexBack", inPlace := ["internal/bytealg.IndexByteString"], apart := false }
def BracelexBackSaid : Prop := bracelexBackRow.holds Try.pinned (OpenSpec.ofChange bracelexBackSpec)

/-- ITS FALSE NEIGHBOUR: 'it returns false'. Refute it at one input. -/
def bracelexBackWrong : ChangeSpec := { name := "bracelexBack", fn := fun _ => fun
  | [d] => { results := [.lit (.bool false)], args := [d] }
  | _ => none }
def BracelexBackWrongFalsely : Prop := bracelexBackRow.holds Try.pinned (OpenSpec.ofChange bracelexBackWrong)

/-- 'datakitlaw19.BracelexJoin': WHATEVER THE INPUT: true; the input reads as it did. -/
def bracelexJoinSpec : ChangeSpec := { name := "bracelexJoin", fn := fun _ => fun
  | [d] => { results := [.lit (.bool true)], args := [d] }
  | _ => none }
def bracelexJoinRow : OpenClaim := { program := "ytmafggfonapmpaa", sum := "9cd32e62cba3ee2c933c6793e16153ad2e87c07cf58417656b701dadfc5d6691", func := "datakit/datakitlaw19.BracelexJoin", spec := "bracelexJoin", inPlace := ["internal/bytealg.IndexByteString", "internal/abi.NoEscape"], apart := false }
def BracelexJoinSaid : Prop := bracelexJoinRow.holds Try.pinned (OpenSpec.ofChange bracelexJoinSpec)

/-- ITS FALSE NEIGHBOUR: 'it returns false'. Refute it at one input. -/
def bracelexJoinWrong : ChangeSpec := { name := "bracelexJoin", fn := fun _ => fun
  | [d] => { results := [.lit (.bool false)], args := [d] }
  | _ => none }
def BracelexJoinWrongFalsely : Prop := bracelexJoinRow.holds Try.pinned (OpenSpec.ofChange bracelexJoinWrong)

/- THE SECOND FORM. 'bulk': how many values and letters a reading holds, each counted each time it is reached (what is shared counts as often as it is met; a slice's spare places count too). A statement '..UptoSaid' is the law's where the arguments, and the package variables that the reading takes, are together of bulk at most 1048576: NARROWER than '..Said'. Prove '..Said' where nothing that the law and all that it calls make is longer than what came in: it says more and counts as full. Else prove '..UptoSaid'. A law counts once. -/
mutual
def uptoBulk {H : Type} : DataW H → Nat
  | .lit (.string bytes) => bytes.length + 1
  | .lit _ => 1
  | .nil => 1
  | .ptr d => uptoBulk d + 1
  | .slice elems spare => uptoBulkAll elems + uptoBulkAll spare + 1
  | .agg parts => uptoBulkAll parts + 1
  | .iface _ d => uptoBulk d + 1
  | .map entries => uptoBulkEntries entries + 1
  | .held _ => 1
def uptoBulkAll {H : Type} : List (DataW H) → Nat
  | [] => 0
  | d :: r => uptoBulk d + uptoBulkAll r
def uptoBulkEntries {H : Type} : List (Lit × DataW H) → Nat
  | [] => 0
  | x :: r => uptoBulkEntry x + uptoBulkEntries r
def uptoBulkEntry {H : Type} : Lit × DataW H → Nat
  | (.string bytes, d) => bytes.length + uptoBulk d + 1
  | (_, d) => uptoBulk d + 1
 end
def uptoSmall : (H : Type) → List (DataW H) → Bool := fun _ ds => decide (uptoBulkAll ds ≤ 1048576)
def OpenSpec.upto (s : _root_.Go.ChangeSpec) : _root_.Go.OpenSpec := { _root_.Go.OpenSpec.ofChange s with cond := some uptoSmall }

/-- 'datakitlaw19.BracelexNexts', WHERE WHAT IT READS IS OF BULK AT MOST 1048576: true; the input reads as it did. -/
def bracelexNextsUptoRow : OpenClaim := { program := "ytmafggfonapmpaa", sum := "9cd32e62cba3ee2c933c6793e16153ad2e87c07cf58417656b701dadfc5d6691", func := "datakit/datakitlaw19.BracelexNexts", spec := "bracelexNexts", inPlace := ["internal/bytealg.IndexByteString"], apart := false, narrowed := true }
def BracelexNextsUptoSaid : Prop := bracelexNextsUptoRow.holds Try.pinned (OpenSpec.upto bracelexNextsSpec)

/-- 'datakitlaw19.BracelexQuotes', WHERE WHAT IT READS IS OF BULK AT MOST 1048576: true; the input reads as it did. -/
def bracelexQuotesUptoRow : OpenClaim := { program := "ytmafggfonapmpaa", sum := "9cd32e62cba3ee2c933c6793e16153ad2e87c07cf58417656b701dadfc5d6691", func := "datakit/datakitlaw19.BracelexQuotes", spec := "bracelexQuotes", inPlace := ["internal/bytealg.IndexByteString"], apart := false, narrowed := true }
def BracelexQuotesUptoSaid : Prop := bracelexQuotesUptoRow.holds Try.pinned (OpenSpec.upto bracelexQuotesSpec)

/-- 'datakitlaw19.BracelexTokens', WHERE WHAT IT READS IS OF BULK AT MOST 1048576: true; the input reads as it did. -/
def bracelexTokensUptoRow : OpenClaim := { program := "ytmafggfonapmpaa", sum := "9cd32e62cba3ee2c933c6793e16153ad2e87c07cf58417656b701dadfc5d6691", func := "datakit/datakitlaw19.BracelexTokens", spec := "bracelexTokens", inPlace := ["internal/bytealg.IndexByteString"], apart := false, narrowed := true }
def BracelexTokensUptoSaid : Prop := bracelexTokensUptoRow.holds Try.pinned (OpenSpec.upto bracelexTokensSpec)

/-- 'datakitlaw19.BracelexCut', WHERE WHAT IT READS IS OF BULK AT MOST 1048576: true; the input reads as it did. -/
def bracelexCutUptoRow : OpenClaim := { program := "ytmafggfonapmpaa", sum := "9cd32e62cba3ee2c933c6793e16153ad2e87c07cf58417656b701dadfc5d6691", func := "datakit/datakitlaw19.BracelexCut", spec := "bracelexCut", inPlace := ["internal/bytealg.IndexByteString"], apart := false, narrowed := true }
def BracelexCutUptoSaid : Prop := bracelexCutUptoRow.holds Try.pinned (OpenSpec.upto bracelexCutSpec)

/-- 'datakitlaw19.BracelexBack', WHERE WHAT IT READS IS OF BULK AT MOST 1048576: true; the input reads as it did. -/
def bracelexBackUptoRow : OpenClaim := { program := "ytmafggfonapmpaa", sum := "9cd32e62cba3ee2c933c6793e16153ad2e87c07cf58417656b701dadfc5d6691", func := "datakit/datakitlaw19.BracelexBack", spec := "bracelexBack", inPlace := ["internal/bytealg.IndexByteString"], apart := false, narrowed := true }
def BracelexBackUptoSaid : Prop := bracelexBackUptoRow.holds Try.pinned (OpenSpec.upto bracelexBackSpec)

/-- 'datakitlaw19.BracelexJoin', WHERE WHAT IT READS IS OF BULK AT MOST 1048576: true; the input reads as it did. -/
def bracelexJoinUptoRow : OpenClaim := { program := "ytmafggfonapmpaa", sum := "9cd32e62cba3ee2c933c6793e16153ad2e87c07cf58417656b701dadfc5d6691", func := "datakit/datakitlaw19.BracelexJoin", spec := "bracelexJoin", inPlace := ["internal/bytealg.IndexByteString", "internal/abi.NoEscape"], apart := false, narrowed := true }
def BracelexJoinUptoSaid : Prop := bracelexJoinUptoRow.holds Try.pinned (OpenSpec.upto bracelexJoinSpec)

end Rows
end Go.Proofs.Ytmafggfonapmpaa
