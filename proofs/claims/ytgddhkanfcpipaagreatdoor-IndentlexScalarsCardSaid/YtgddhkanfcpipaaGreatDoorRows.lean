/-
  NARROWER THAN 'FOR EVERY INPUT', by the rows' own cells (each row's printed sentence says how): IndentlexLines: laid · IndentlexScalars: laid · IndentlexKeys: laid · IndentlexQuotes: laid · IndentlexBack: laid · IndentlexJoin: laid · IndentlexShows: loops, laid · IndentlexTold: loops, laid.
  DERIVED. THE GIVEN ROWS OF THIS SEAT. 8 by the template 'for every input the law returns true; each argument reads behind the call as it read before'; 0 by the template 'total and deterministic' (their statements: YtgddhkanfcpipaaGreatDoorTotals.lean).
  GIVEN WITH THE SEED: the statements are not yours to turn. If you find one false, say at which input.
  Laid BY PROGRAM, IN A SANDBOX (cutbox-rows.mjs): the forced cells as the released guide's own fill.sh prints them over the translation e76af7d2b96ac646… (all of the seat's roots in one cut). By AI agents, Wed Nov 11 2026. No macro, syntax, notation, axiom, sorry.
-/
import Derived.Test.YtgddhkanfcpipaaGreatDoorChecked
import GoSem.PinnedTables
import GoSem.Claim
import GoSem.ClaimJoined
import GoSem.ClaimMapViews
import Derived.JoinedTies
import Derived.KernelRfl
namespace Go.Proofs.YtgddhkanfcpipaaGreatDoor
/- THE CELL 'sum', in the pinned program and in every row, IS THE sha256 OF THE DUMP (.gsa) THAT YtgddhkanfcpipaaGreatDoorProg.lean LOADS. Nothing in Lean hashes anything: it is a label: what it is worth is what the hold of that sum in a sandbox is worth. -/
noncomputable def Tryz.pinned : Pinned := { name := "ytgddhkanfcpipaagreatdoor", sum := "e76af7d2b96ac646b863d932f03b3176aa1a2dfc9de53a78abea17d9e679cfe3", checked := Tryz.checked }
namespace Rows
def none {H : Type} : Left H := { results := [], args := [] }

/- WHAT THE LISTED PACKAGE-LEVEL VARIABLES READ AS WHEN THE CALL BEGINS. Each datum BY PROGRAM (the guide's laid-datum.mjs) off the statement by which the dump's own 'gosem.cut.vars' lays the variable. In a bare row this is a premise. The card (YtgddhkanfcpipaaGreatDoorCards.lean) ties it to the program's text. -/
def laid_unicode_utf8_acceptRanges {H : Type} : DataW H := .agg [.agg [.lit (.int .u8 128), .lit (.int .u8 191)], .agg [.lit (.int .u8 160), .lit (.int .u8 191)], .agg [.lit (.int .u8 128), .lit (.int .u8 159)], .agg [.lit (.int .u8 144), .lit (.int .u8 191)], .agg [.lit (.int .u8 128), .lit (.int .u8 143)], .agg [.lit (.int .u8 0), .lit (.int .u8 0)], .agg [.lit (.int .u8 0), .lit (.int .u8 0)], .agg [.lit (.int .u8 0), .lit (.int .u8 0)], .agg [.lit (.int .u8 0), .lit (.int .u8 0)], .agg [.lit (.int .u8 0), .lit (.int .u8 0)], .agg [.lit (.int .u8 0), .lit (.int .u8 0)], .agg [.lit (.int .u8 0), .lit (.int .u8 0)], .agg [.lit (.int .u8 0), .lit (.int .u8 0)], .agg [.lit (.int .u8 0), .lit (.int .u8 0)], .agg [.lit (.int .u8 0), .lit (.int .u8 0)], .agg [.lit (.int .u8 0), .lit (.int .u8 0)]]
/-- One of Go's own tables, pinned by name: the form's constant. -/
def laid_unicode_utf8_first : DataW Unit := Go.Pinned.utf8First

/-- 'datakitlaw21.IndentlexLines': WHATEVER THE INPUT: true; the input reads as it did. -/
def indentlexLinesSpec : ChangeSpec := { name := "indentlexLines", fn := fun _ => fun
  | [d] => { results := [.lit (.bool true)], args := [d] }
  | _ => none }
def indentlexLinesRow : OpenClaim := { program := "ytgddhkanfcpipaagreatdoor", sum := "e76af7d2b96ac646b863d932f03b3176aa1a2dfc9de53a78abea17d9e679cfe3", func := "datakit/datakitlaw21.IndentlexLines", spec := "indentlexLines", inPlace := ["internal/bytealg.IndexByteString", "internal/bytealg.IndexString"], unfollowed := true, recurses := true, named := ["unicode/utf8.first", "unicode/utf8.acceptRanges", "internal/bytealg.MaxLen"], apart := false, laid := [("unicode/utf8.acceptRanges", laid_unicode_utf8_acceptRanges), ("unicode/utf8.first", laid_unicode_utf8_first)] }
def IndentlexLinesSaid : Prop := indentlexLinesRow.holds Tryz.pinned (OpenSpec.ofChange indentlexLinesSpec)

/-- ITS FALSE NEIGHBOUR: 'it returns false'. Refute it at one input. -/
def indentlexLinesWrong : ChangeSpec := { name := "indentlexLines", fn := fun _ => fun
  | [d] => { results := [.lit (.bool false)], args := [d] }
  | _ => none }
def IndentlexLinesWrongFalsely : Prop := indentlexLinesRow.holds Tryz.pinned (OpenSpec.ofChange indentlexLinesWrong)

/-- 'datakitlaw21.IndentlexScalars': WHATEVER THE INPUT: true; the input reads as it did. -/
def indentlexScalarsSpec : ChangeSpec := { name := "indentlexScalars", fn := fun _ => fun
  | [d] => { results := [.lit (.bool true)], args := [d] }
  | _ => none }
def indentlexScalarsRow : OpenClaim := { program := "ytgddhkanfcpipaagreatdoor", sum := "e76af7d2b96ac646b863d932f03b3176aa1a2dfc9de53a78abea17d9e679cfe3", func := "datakit/datakitlaw21.IndentlexScalars", spec := "indentlexScalars", inPlace := ["internal/bytealg.IndexByteString", "internal/bytealg.IndexString"], unfollowed := true, recurses := true, named := ["unicode/utf8.first", "unicode/utf8.acceptRanges", "internal/bytealg.MaxLen"], apart := false, laid := [("unicode/utf8.acceptRanges", laid_unicode_utf8_acceptRanges), ("unicode/utf8.first", laid_unicode_utf8_first)] }
def IndentlexScalarsSaid : Prop := indentlexScalarsRow.holds Tryz.pinned (OpenSpec.ofChange indentlexScalarsSpec)

/-- ITS FALSE NEIGHBOUR: 'it returns false'. Refute it at one input. -/
def indentlexScalarsWrong : ChangeSpec := { name := "indentlexScalars", fn := fun _ => fun
  | [d] => { results := [.lit (.bool false)], args := [d] }
  | _ => none }
def IndentlexScalarsWrongFalsely : Prop := indentlexScalarsRow.holds Tryz.pinned (OpenSpec.ofChange indentlexScalarsWrong)

/-- 'datakitlaw21.IndentlexKeys': WHATEVER THE INPUT: true; the input reads as it did. -/
def indentlexKeysSpec : ChangeSpec := { name := "indentlexKeys", fn := fun _ => fun
  | [d] => { results := [.lit (.bool true)], args := [d] }
  | _ => none }
def indentlexKeysRow : OpenClaim := { program := "ytgddhkanfcpipaagreatdoor", sum := "e76af7d2b96ac646b863d932f03b3176aa1a2dfc9de53a78abea17d9e679cfe3", func := "datakit/datakitlaw21.IndentlexKeys", spec := "indentlexKeys", inPlace := ["internal/bytealg.IndexByteString", "internal/bytealg.IndexString"], unfollowed := true, recurses := true, named := ["unicode/utf8.first", "unicode/utf8.acceptRanges", "internal/bytealg.MaxLen"], apart := false, laid := [("unicode/utf8.acceptRanges", laid_unicode_utf8_acceptRanges), ("unicode/utf8.first", laid_unicode_utf8_first)] }
def IndentlexKeysSaid : Prop := indentlexKeysRow.holds Tryz.pinned (OpenSpec.ofChange indentlexKeysSpec)

/-- ITS FALSE NEIGHBOUR: 'it returns false'. Refute it at one input. -/
def indentlexKeysWrong : ChangeSpec := { name := "indentlexKeys", fn := fun _ => fun
  | [d] => { results := [.lit (.bool false)], args := [d] }
  | _ => none }
def IndentlexKeysWrongFalsely : Prop := indentlexKeysRow.holds Tryz.pinned (OpenSpec.ofChange indentlexKeysWrong)

/-- 'datakitlaw21.IndentlexQuotes': WHATEVER THE INPUT: true; the input reads as it did. -/
def indentlexQuotesSpec : ChangeSpec := { name := "indentlexQuotes", fn := fun _ => fun
  | [d1, d2] => { results := [.lit (.bool true)], args := [d1, d2] }
  | _ => none }
def indentlexQuotesRow : OpenClaim := { program := "ytgddhkanfcpipaagreatdoor", sum := "e76af7d2b96ac646b863d932f03b3176aa1a2dfc9de53a78abea17d9e679cfe3", func := "datakit/datakitlaw21.IndentlexQuotes", spec := "indentlexQuotes", inPlace := ["internal/bytealg.IndexByteString", "internal/bytealg.IndexString"], unfollowed := true, recurses := true, named := ["unicode/utf8.first", "unicode/utf8.acceptRanges", "internal/bytealg.MaxLen"], apart := false, laid := [("unicode/utf8.acceptRanges", laid_unicode_utf8_acceptRanges), ("unicode/utf8.first", laid_unicode_utf8_first)] }
def IndentlexQuotesSaid : Prop := indentlexQuotesRow.holds Tryz.pinned (OpenSpec.ofChange indentlexQuotesSpec)

/-- ITS FALSE NEIGHBOUR: 'it returns false'. Refute it at one input. -/
def indentlexQuotesWrong : ChangeSpec := { name := "indentlexQuotes", fn := fun _ => fun
  | [d1, d2] => { results := [.lit (.bool false)], args := [d1, d2] }
  | _ => none }
def IndentlexQuotesWrongFalsely : Prop := indentlexQuotesRow.holds Tryz.pinned (OpenSpec.ofChange indentlexQuotesWrong)

/-- 'datakitlaw21.IndentlexBack': WHATEVER THE INPUT: true; the input reads as it did. -/
def indentlexBackSpec : ChangeSpec := { name := "indentlexBack", fn := fun _ => fun
  | [d] => { results := [.lit (.bool true)], args := [d] }
  | _ => none }
def indentlexBackRow : OpenClaim := { program := "ytgddhkanfcpipaagreatdoor", sum := "e76af7d2b96ac646b863d932f03b3176aa1a2dfc9de53a78abea17d9e679cfe3", func := "datakit/datakitlaw21.IndentlexBack", spec := "indentlexBack", inPlace := ["internal/bytealg.IndexByteString", "internal/bytealg.IndexString"], unfollowed := true, recurses := true, named := ["unicode/utf8.first", "unicode/utf8.acceptRanges", "internal/bytealg.MaxLen"], apart := false, laid := [("unicode/utf8.acceptRanges", laid_unicode_utf8_acceptRanges), ("unicode/utf8.first", laid_unicode_utf8_first)] }
def IndentlexBackSaid : Prop := indentlexBackRow.holds Tryz.pinned (OpenSpec.ofChange indentlexBackSpec)

/-- ITS FALSE NEIGHBOUR: 'it returns false'. Refute it at one input. -/
def indentlexBackWrong : ChangeSpec := { name := "indentlexBack", fn := fun _ => fun
  | [d] => { results := [.lit (.bool false)], args := [d] }
  | _ => none }
def IndentlexBackWrongFalsely : Prop := indentlexBackRow.holds Tryz.pinned (OpenSpec.ofChange indentlexBackWrong)

/-- 'datakitlaw21.IndentlexJoin': WHATEVER THE INPUT: true; the input reads as it did. -/
def indentlexJoinSpec : ChangeSpec := { name := "indentlexJoin", fn := fun _ => fun
  | [d] => { results := [.lit (.bool true)], args := [d] }
  | _ => none }
def indentlexJoinRow : OpenClaim := { program := "ytgddhkanfcpipaagreatdoor", sum := "e76af7d2b96ac646b863d932f03b3176aa1a2dfc9de53a78abea17d9e679cfe3", func := "datakit/datakitlaw21.IndentlexJoin", spec := "indentlexJoin", inPlace := ["internal/bytealg.IndexByteString", "internal/bytealg.IndexString", "internal/abi.NoEscape", "internal/bytealg.MakeNoZero"], unfollowed := true, recurses := true, named := ["unicode/utf8.first", "unicode/utf8.acceptRanges", "internal/bytealg.MaxLen"], apart := false, laid := [("unicode/utf8.acceptRanges", laid_unicode_utf8_acceptRanges), ("unicode/utf8.first", laid_unicode_utf8_first)] }
def IndentlexJoinSaid : Prop := indentlexJoinRow.holds Tryz.pinned (OpenSpec.ofChange indentlexJoinSpec)

/-- ITS FALSE NEIGHBOUR: 'it returns false'. Refute it at one input. -/
def indentlexJoinWrong : ChangeSpec := { name := "indentlexJoin", fn := fun _ => fun
  | [d] => { results := [.lit (.bool false)], args := [d] }
  | _ => none }
def IndentlexJoinWrongFalsely : Prop := indentlexJoinRow.holds Tryz.pinned (OpenSpec.ofChange indentlexJoinWrong)

/-- 'datakitlaw21.IndentlexShows': WHATEVER THE INPUT: true; the input reads as it did. -/
def indentlexShowsSpec : ChangeSpec := { name := "indentlexShows", fn := fun _ => fun
  | [d] => { results := [.lit (.bool true)], args := [d] }
  | _ => none }
def indentlexShowsRow : OpenClaim := { program := "ytgddhkanfcpipaagreatdoor", sum := "e76af7d2b96ac646b863d932f03b3176aa1a2dfc9de53a78abea17d9e679cfe3", func := "datakit/datakitlaw21.IndentlexShows", spec := "indentlexShows", inPlace := ["internal/bytealg.IndexByteString", "internal/bytealg.IndexString", "internal/abi.NoEscape", "internal/bytealg.MakeNoZero"], unfollowed := true, recurses := true, named := ["unicode/utf8.first", "unicode/utf8.acceptRanges", "internal/bytealg.MaxLen"], loops := true, apart := false, laid := [("unicode/utf8.acceptRanges", laid_unicode_utf8_acceptRanges), ("unicode/utf8.first", laid_unicode_utf8_first)] }
def IndentlexShowsSaid : Prop := indentlexShowsRow.holds Tryz.pinned (OpenSpec.ofChange indentlexShowsSpec)

/-- ITS FALSE NEIGHBOUR: 'it returns false'. Refute it at one input. -/
def indentlexShowsWrong : ChangeSpec := { name := "indentlexShows", fn := fun _ => fun
  | [d] => { results := [.lit (.bool false)], args := [d] }
  | _ => none }
def IndentlexShowsWrongFalsely : Prop := indentlexShowsRow.holds Tryz.pinned (OpenSpec.ofChange indentlexShowsWrong)

/-- 'datakitlaw21.IndentlexTold': WHATEVER THE INPUT: true; the input reads as it did. -/
def indentlexToldSpec : ChangeSpec := { name := "indentlexTold", fn := fun _ => fun
  | [d] => { results := [.lit (.bool true)], args := [d] }
  | _ => none }
def indentlexToldRow : OpenClaim := { program := "ytgddhkanfcpipaagreatdoor", sum := "e76af7d2b96ac646b863d932f03b3176aa1a2dfc9de53a78abea17d9e679cfe3", func := "datakit/datakitlaw21.IndentlexTold", spec := "indentlexTold", inPlace := ["internal/bytealg.IndexByteString", "internal/bytealg.IndexString", "internal/abi.NoEscape", "internal/bytealg.MakeNoZero"], unfollowed := true, recurses := true, named := ["unicode/utf8.first", "unicode/utf8.acceptRanges", "internal/bytealg.MaxLen"], loops := true, apart := false, laid := [("unicode/utf8.acceptRanges", laid_unicode_utf8_acceptRanges), ("unicode/utf8.first", laid_unicode_utf8_first)] }
def IndentlexToldSaid : Prop := indentlexToldRow.holds Tryz.pinned (OpenSpec.ofChange indentlexToldSpec)

/-- ITS FALSE NEIGHBOUR: 'it returns false'. Refute it at one input. -/
def indentlexToldWrong : ChangeSpec := { name := "indentlexTold", fn := fun _ => fun
  | [d] => { results := [.lit (.bool false)], args := [d] }
  | _ => none }
def IndentlexToldWrongFalsely : Prop := indentlexToldRow.holds Tryz.pinned (OpenSpec.ofChange indentlexToldWrong)

/- THE SECOND FORM. 'bulk': how many values and letters a reading holds, each counted each time it is reached (what is shared counts as often as it is met; a slice's spare places count too). A statement '..UptoSaid' is the law's where the arguments, and the package variables that the reading takes, are together of bulk at most 1048576: NARROWER than '..Said'. Prove '..Said' where nothing that the law and all that it calls make is longer than what came in: it says more and counts as full. Else prove '..UptoSaid'. A law counts once. -/
mutual
def uptoBulk {H : Type} : DataW H → Nat
  | .lit (.string bytes) => bytes.length + 1
  | .lit _ => 1
  | .nil => 1
  | .ptr d => uptoBulk d + 1
  | .slice elems spare => uptoBulkAll elems + uptoBulkAll spare + 1
  | .agg parts => uptoBulkAll parts + 1
  | .iface _ d => uptoBulk d + 1
  | .map entries => uptoBulkEntries entries + 1
  | .held _ => 1
def uptoBulkAll {H : Type} : List (DataW H) → Nat
  | [] => 0
  | d :: r => uptoBulk d + uptoBulkAll r
def uptoBulkEntries {H : Type} : List (Lit × DataW H) → Nat
  | [] => 0
  | x :: r => uptoBulkEntry x + uptoBulkEntries r
def uptoBulkEntry {H : Type} : Lit × DataW H → Nat
  | (.string bytes, d) => bytes.length + uptoBulk d + 1
  | (_, d) => uptoBulk d + 1
 end
def uptoSmall : (H : Type) → List (DataW H) → Bool := fun _ ds => decide (uptoBulkAll ds ≤ 1048576)
def OpenSpec.upto (s : _root_.Go.ChangeSpec) : _root_.Go.OpenSpec := { _root_.Go.OpenSpec.ofChange s with cond := some uptoSmall }

/-- 'datakitlaw21.IndentlexLines', WHERE WHAT IT READS IS OF BULK AT MOST 1048576: true; the input reads as it did. -/
def indentlexLinesUptoRow : OpenClaim := { program := "ytgddhkanfcpipaagreatdoor", sum := "e76af7d2b96ac646b863d932f03b3176aa1a2dfc9de53a78abea17d9e679cfe3", func := "datakit/datakitlaw21.IndentlexLines", spec := "indentlexLines", inPlace := ["internal/bytealg.IndexByteString", "internal/bytealg.IndexString"], unfollowed := true, recurses := true, named := ["unicode/utf8.first", "unicode/utf8.acceptRanges", "internal/bytealg.MaxLen"], apart := false, laid := [("unicode/utf8.acceptRanges", laid_unicode_utf8_acceptRanges), ("unicode/utf8.first", laid_unicode_utf8_first)], narrowed := true }
def IndentlexLinesUptoSaid : Prop := indentlexLinesUptoRow.holds Tryz.pinned (OpenSpec.upto indentlexLinesSpec)

/-- 'datakitlaw21.IndentlexScalars', WHERE WHAT IT READS IS OF BULK AT MOST 1048576: true; the input reads as it did. -/
def indentlexScalarsUptoRow : OpenClaim := { program := "ytgddhkanfcpipaagreatdoor", sum := "e76af7d2b96ac646b863d932f03b3176aa1a2dfc9de53a78abea17d9e679cfe3", func := "datakit/datakitlaw21.IndentlexScalars", spec := "indentlexScalars", inPlace := ["internal/bytealg.IndexByteString", "internal/bytealg.IndexString"], unfollowed := true, recurses := true, named := ["unicode/utf8.first", "unicode/utf8.acceptRanges", "internal/bytealg.MaxLen"], apart := false, laid := [("unicode/utf8.acceptRanges", laid_unicode_utf8_acceptRanges), ("unicode/utf8.first", laid_unicode_utf8_first)], narrowed := true }
def IndentlexScalarsUptoSaid : Prop := indentlexScalarsUptoRow.holds Tryz.pinned (OpenSpec.upto indentlexScalarsSpec)

/-- 'datakitlaw21.IndentlexKeys', WHERE WHAT IT READS IS OF BULK AT MOST 1048576: true; the input reads as it did. -/
def indentlexKeysUptoRow : OpenClaim := { program := "ytgddhkanfcpipaagreatdoor", sum := "e76af7d2b96ac646b863d932f03b3176aa1a2dfc9de53a78abea17d9e679cfe3", func := "datakit/datakitlaw21.IndentlexKeys", spec := "indentlexKeys", inPlace := ["internal/bytealg.IndexByteString", "internal/bytealg.IndexString"], unfollowed := true, recurses := true, named := ["unicode/utf8.first", "unicode/utf8.acceptRanges", "internal/bytealg.MaxLen"], apart := false, laid := [("unicode/utf8.acceptRanges", laid_unicode_utf8_acceptRanges), ("unicode/utf8.first", laid_unicode_utf8_first)], narrowed := true }
def IndentlexKeysUptoSaid : Prop := indentlexKeysUptoRow.holds Tryz.pinned (OpenSpec.upto indentlexKeysSpec)

/-- 'datakitlaw21.IndentlexQuotes', WHERE WHAT IT READS IS OF BULK AT MOST 1048576: true; the input reads as it did. -/
def indentlexQuotesUptoRow : OpenClaim := { program := "ytgddhkanfcpipaagreatdoor", sum := "e76af7d2b96ac646b863d932f03b3176aa1a2dfc9de53a78abea17d9e679cfe3", func := "datakit/datakitlaw21.IndentlexQuotes", spec := "indentlexQuotes", inPlace := ["internal/bytealg.IndexByteString", "internal/bytealg.IndexString"], unfollowed := true, recurses := true, named := ["unicode/utf8.first", "unicode/utf8.acceptRanges", "internal/bytealg.MaxLen"], apart := false, laid := [("unicode/utf8.acceptRanges", laid_unicode_utf8_acceptRanges), ("unicode/utf8.first", laid_unicode_utf8_first)], narrowed := true }
def IndentlexQuotesUptoSaid : Prop := indentlexQuotesUptoRow.holds Tryz.pinned (OpenSpec.upto indentlexQuotesSpec)

/-- 'datakitlaw21.IndentlexBack', WHERE WHAT IT READS IS OF BULK AT MOST 1048576: true; the input reads as it did. -/
def indentlexBackUptoRow : OpenClaim := { program := "ytgddhkanfcpipaagreatdoor", sum := "e76af7d2b96ac646b863d932f03b3176aa1a2dfc9de53a78abea17d9e679cfe3", func := "datakit/datakitlaw21.IndentlexBack", spec := "indentlexBack", inPlace := ["internal/bytealg.IndexByteString", "internal/bytealg.IndexString"], unfollowed := true, recurses := true, named := ["unicode/utf8.first", "unicode/utf8.acceptRanges", "internal/bytealg.MaxLen"], apart := false, laid := [("unicode/utf8.acceptRanges", laid_unicode_utf8_acceptRanges), ("unicode/utf8.first", laid_unicode_utf8_first)], narrowed := true }
def IndentlexBackUptoSaid : Prop := indentlexBackUptoRow.holds Tryz.pinned (OpenSpec.upto indentlexBackSpec)

/-- 'datakitlaw21.IndentlexJoin', WHERE WHAT IT READS IS OF BULK AT MOST 1048576: true; the input reads as it did. -/
def indentlexJoinUptoRow : OpenClaim := { program := "ytgddhkanfcpipaagreatdoor", sum := "e76af7d2b96ac646b863d932f03b3176aa1a2dfc9de53a78abea17d9e679cfe3", func := "datakit/datakitlaw21.IndentlexJoin", spec := "indentlexJoin", inPlace := ["internal/bytealg.IndexByteString", "internal/bytealg.IndexString", "internal/abi.NoEscape", "internal/bytealg.MakeNoZero"], unfollowed := true, recurses := true, named := ["unicode/utf8.first", "unicode/utf8.acceptRanges", "internal/bytealg.MaxLen"], apart := false, laid := [("unicode/utf8.acceptRanges", laid_unicode_utf8_acceptRanges), ("unicode/utf8.first", laid_unicode_utf8_first)], narrowed := true }
def IndentlexJoinUptoSaid : Prop := indentlexJoinUptoRow.holds Tryz.pinned (OpenSpec.upto indentlexJoinSpec)

/-- 'datakitlaw21.IndentlexShows', WHERE WHAT IT READS IS OF BULK AT MOST 1048576: true; the input reads as it did. -/
def indentlexShowsUptoRow : OpenClaim := { program := "ytgddhkanfcpipaagreatdoor", sum := "e76af7d2b96ac646b863d932f03b3176aa1a2dfc9de53a78abea17d9e679cfe3", func := "datakit/datakitlaw21.IndentlexShows", spec := "indentlexShows", inPlace := ["internal/bytealg.IndexByteString", "internal/bytealg.IndexString", "internal/abi.NoEscape", "internal/bytealg.MakeNoZero"], unfollowed := true, recurses := true, named := ["unicode/utf8.first", "unicode/utf8.acceptRanges", "internal/bytealg.MaxLen"], loops := true, apart := false, laid := [("unicode/utf8.acceptRanges", laid_unicode_utf8_acceptRanges), ("unicode/utf8.first", laid_unicode_utf8_first)], narrowed := true }
def IndentlexShowsUptoSaid : Prop := indentlexShowsUptoRow.holds Tryz.pinned (OpenSpec.upto indentlexShowsSpec)

/-- 'datakitlaw21.IndentlexTold', WHERE WHAT IT READS IS OF BULK AT MOST 1048576: true; the input reads as it did. -/
def indentlexToldUptoRow : OpenClaim := { program := "ytgddhkanfcpipaagreatdoor", sum := "e76af7d2b96ac646b863d932f03b3176aa1a2dfc9de53a78abea17d9e679cfe3", func := "datakit/datakitlaw21.IndentlexTold", spec := "indentlexTold", inPlace := ["internal/bytealg.IndexByteString", "internal/bytealg.IndexString", "internal/abi.NoEscape", "internal/bytealg.MakeNoZero"], unfollowed := true, recurses := true, named := ["unicode/utf8.first", "unicode/utf8.acceptRanges", "internal/bytealg.MaxLen"], loops := true, apart := false, laid := [("unicode/utf8.acceptRanges", laid_unicode_utf8_acceptRanges), ("unicode/utf8.first", laid_unicode_utf8_first)], narrowed := true }
def IndentlexToldUptoSaid : Prop := indentlexToldUptoRow.holds Tryz.pinned (OpenSpec.upto indentlexToldSpec)

end Rows
end Go.Proofs.YtgddhkanfcpipaaGreatDoor
