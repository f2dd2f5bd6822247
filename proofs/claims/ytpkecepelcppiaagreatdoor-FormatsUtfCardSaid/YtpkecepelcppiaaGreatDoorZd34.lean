/- datakitref15.show, Text walked. Conditions: the text of at most 10^9 bytes. -/
import Derived.Test.YtpkecepelcppiaaGreatDoorZd17
import Derived.Test.YtpkecepelcppiaaGreatDoorZd20
import Derived.Test.YtpkecepelcppiaaGreatDoorZd33
import Derived.Test.YtpkecepelcppiaaGreatDoorZd11
namespace Go.Proofs.YtpkecepelcppiaaGreatDoor
open Go.RowKit Go.Shelf
set_option maxHeartbeats 4000000
set_option maxRecDepth 100000

end Go.Proofs.YtpkecepelcppiaaGreatDoor
