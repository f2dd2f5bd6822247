/- The package datakitref19, walked: Next, Source, Tokens, Unquote. Conditions: strings of at most 10^11 bytes. -/
import Derived.Test.YtmafggfonapmpaaDoorR6
import Derived.Test.YtmafggfonapmpaaDoorBl11
import Derived.Deep.DeepCutAuto
import Derived.Deep.CutBlock
namespace Go.Proofs.YtmafggfonapmpaaDoor
open Go.RowKit
set_option maxHeartbeats 1000000
set_option maxRecDepth 100000

theorem tokenF_ret {a b : Nat} {p : Nat × Nat} (h : p = (a, b)) : Ending.returned (.tuple #[.int .i64 a, .int .i64 b]) = Ending.returned (.tuple #[.int .i64 p.1, .int .i64 p.2]) := by rw [h]
/-- The offset and the error that Source hands back. -/
def srcR (s : ByteArray) : Nat × Nat := if 1048576 < s.size then (0, 10) else if badL (L s) < s.size then (badL (L s), 5) else (0, 0)
theorem badL_le_size (s : ByteArray) : badL (L s) ≤ s.size := by
  have := badL_le (L s)
  rwa [L_len] at this
end Go.Proofs.YtmafggfonapmpaaDoor
