/- datakitref15.show, Text walked. Conditions: the text of at most 10^9 bytes. -/
import Derived.Test.YtpkecepelcppiaaDoorZc17
import Derived.Test.YtpkecepelcppiaaDoorZc20
import Derived.Test.YtpkecepelcppiaaDoorZc31
import Derived.Test.YtpkecepelcppiaaDoorZc11
namespace Go.Proofs.YtpkecepelcppiaaDoor
open Go.RowKit Go.Shelf
set_option maxHeartbeats 4000000
set_option maxRecDepth 100000

end Go.Proofs.YtpkecepelcppiaaDoor
