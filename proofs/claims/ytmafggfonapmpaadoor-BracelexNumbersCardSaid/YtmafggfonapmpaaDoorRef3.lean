/- The package datakitref03, walked: character, Encode, Decode, Boundaries, Bad, Valid. Conditions: the string has at most 2^31 bytes. -/
import Derived.Test.YtmafggfonapmpaaDoorEnc
import Derived.Test.YtmafggfonapmpaaDoorDec
namespace Go.Proofs.YtmafggfonapmpaaDoor
open Go.RowKit
set_option maxHeartbeats 1000000
set_option maxRecDepth 100000

end Go.Proofs.YtmafggfonapmpaaDoor
