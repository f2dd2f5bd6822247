/- The package bracelex, walked: invalid, Unquote. Conditions: strings of at most 10^11 bytes. -/
import Derived.Test.YtggolmamacoplaaGreatDoorZy6
import Derived.Deep.DeepCutAuto
import Derived.Deep.CutBlock
import Derived.Test.YtggolmamacoplaaGreatDoorZy5
namespace Go.Proofs.YtggolmamacoplaaGreatDoor
open Go.RowKit
set_option maxHeartbeats 1000000
set_option maxRecDepth 100000

end Go.Proofs.YtggolmamacoplaaGreatDoor

namespace Go.Proofs.YtggolmamacoplaaGreatDoor
open Go.RowKit
set_option maxHeartbeats 1000000
set_option maxRecDepth 100000

end Go.Proofs.YtggolmamacoplaaGreatDoor

namespace Go.Proofs.YtggolmamacoplaaGreatDoor
open Go.RowKit
set_option maxHeartbeats 1000000
set_option maxRecDepth 100000

end Go.Proofs.YtggolmamacoplaaGreatDoor

namespace Go.Proofs.YtggolmamacoplaaGreatDoor
open Go.RowKit
set_option maxHeartbeats 1000000
set_option maxRecDepth 100000

end Go.Proofs.YtggolmamacoplaaGreatDoor

namespace Go.Proofs.YtggolmamacoplaaGreatDoor
open Go.RowKit
set_option maxHeartbeats 1000000
set_option maxRecDepth 100000

end Go.Proofs.YtggolmamacoplaaGreatDoor

namespace Go.Proofs.YtggolmamacoplaaGreatDoor
open Go.RowKit
set_option maxHeartbeats 1000000
set_option maxRecDepth 100000

end Go.Proofs.YtggolmamacoplaaGreatDoor

namespace Go.Proofs.YtggolmamacoplaaGreatDoor
open Go.RowKit
set_option maxHeartbeats 1000000
set_option maxRecDepth 100000

end Go.Proofs.YtggolmamacoplaaGreatDoor
