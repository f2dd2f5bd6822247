/- The package bracelex, walked: Tokens. Conditions: strings of at most 10^11 bytes. -/
import Derived.Test.YtggolmamacoplaaDoorZz8
import Derived.Deep.DeepCutAuto
import Derived.Deep.CutBlock
namespace Go.Proofs.YtggolmamacoplaaDoor
open Go.RowKit
set_option maxHeartbeats 1000000
set_option maxRecDepth 100000

end Go.Proofs.YtggolmamacoplaaDoor

namespace Go.Proofs.YtggolmamacoplaaDoor
open Go.RowKit
set_option maxHeartbeats 1000000
set_option maxRecDepth 100000

/-! A token without an error takes bytes that are there. -/
/-! Next: the token at an offset. -/
end Go.Proofs.YtggolmamacoplaaDoor

namespace Go.Proofs.YtggolmamacoplaaDoor
open Go.RowKit
set_option maxHeartbeats 1000000
set_option maxRecDepth 100000

/-- A token's cells. -/
def tk (x : Nat × ByteArray × Nat) : List Value := [.int .i64 x.1, .string x.2.1, .int .i64 x.2.2]
end Go.Proofs.YtggolmamacoplaaDoor
