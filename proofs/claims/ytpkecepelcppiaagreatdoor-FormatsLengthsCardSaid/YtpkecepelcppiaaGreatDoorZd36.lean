/- regex.derive walked at cat; printed by gen_ryd.py. Conditions: fewer than 10^6 nodes. -/
import Derived.Test.YtpkecepelcppiaaGreatDoorZd35
import Derived.Test.YtpkecepelcppiaaGreatDoorZd3
namespace Go.Proofs.YtpkecepelcppiaaGreatDoor
open Go.RowKit Go.Shelf
set_option maxHeartbeats 4000000
set_option maxRecDepth 100000

structure DerS (c : PC) (w wr : World) : Prop where
 box : BoxP w.heap.size c wr
 ret : BoxP (w.heap.size + 1) ⟨0, 0, 0, 0, 0, .slice none 0 0⟩ wr
 bel : Below w.heap.size w wr
theorem DerS.stay {c : PC} {w wr wx : World} (h : DerS c w wr) (hb : Below wr.heap.size wr wx) : DerS c w wx := ⟨h.box.below hb, h.ret.below hb, h.bel.trans (hb.mono h.bel.size)⟩
end Go.Proofs.YtpkecepelcppiaaGreatDoor

namespace Go.Proofs.YtpkecepelcppiaaGreatDoor
open Go.RowKit Go.Shelf
set_option maxHeartbeats 4000000
set_option maxRecDepth 100000

end Go.Proofs.YtpkecepelcppiaaGreatDoor
