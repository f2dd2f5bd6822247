/- The specification's parser: each reading uses up at least a byte; its loops by rounds. No program in sight. Conditions: none. -/
import Derived.Test.YtpkecepelcppiaaGreatDoorZd36
import Derived.Test.YtpkecepelcppiaaGreatDoorZd21
import Derived.Test.YtpkecepelcppiaaGreatDoorZd16
import Derived.Test.YtpkecepelcppiaaGreatDoorZd17
namespace Go.Proofs.YtpkecepelcppiaaGreatDoor
open Go.RowKit Go.Shelf
set_option maxHeartbeats 4000000
set_option maxRecDepth 100000

end Go.Proofs.YtpkecepelcppiaaGreatDoor

namespace Go.Proofs.YtpkecepelcppiaaGreatDoor
open Go.RowKit Go.Shelf
set_option maxHeartbeats 4000000
set_option maxRecDepth 100000

def RetF (p : RX) (w : World) (e : Ending) (w' : World) : Prop := ∃ c, e = .returned (aggP c) ∧ RdP w' c p ∧ Below w.heap.size w w'
theorem RetF.fin {w0 w w4 : World} {d z : PC} {p : RX} (hx : BoxP (w0.heap.size + 1) z w) (hb : Below w0.heap.size w0 w) (hd : RdQ (fun g => g ≠ w0.heap.size + 1) w d p)
  (he : ((((((w.setCell ⟨w0.heap.size + 1, 0, none⟩ (.int .i64 d.op)).setCell ⟨w0.heap.size + 1, 1, none⟩ (.int .i64 d.lo)).setCell ⟨w0.heap.size + 1, 2, none⟩ (.int .i64 d.hi)).setCell ⟨w0.heap.size + 1, 3, none⟩ (.int .i64 d.mn)).setCell ⟨w0.heap.size + 1, 4, none⟩ (.int .i64 d.mx)).setCell ⟨w0.heap.size + 1, 5, none⟩ d.a) = w4) :
  BoxP (w0.heap.size + 1) d w4 ∧ RetF p w0 (.returned (aggP d)) w4 := by
 obtain ⟨b1, b2⟩ := hx.set he
 have ho := set6_other he
 exact ⟨b1, d, rfl, (hd.keep (w' := w4) (fun x hx _ => ho x hx)).rd, hb.trans (b2.mono (by omega))⟩
end Go.Proofs.YtpkecepelcppiaaGreatDoor

namespace Go.Proofs.YtpkecepelcppiaaGreatDoor
open Go.RowKit Go.Shelf
set_option maxHeartbeats 4000000
set_option maxRecDepth 100000

structure RepS (N : Nat → Prop) (p : RX) (c : PC) (w wr : World) : Prop where
 box : BoxP w.heap.size c wr
 ret : BoxP (w.heap.size + 1) ⟨0, 0, 0, 0, 0, .slice none 0 0⟩ wr
 row : BoxP (w.heap.size + 2) c wr
 bel : Below w.heap.size w wr
 rd : RdQ (fun g => N g ∧ g < w.heap.size) wr c p
theorem RepS.fin {N : Nat → Prop} {p q : RX} {c d : PC} {w wr w4 : World} (h : RepS N p c w wr) (hd : RdQ (fun g => (N g ∧ g < w.heap.size) ∨ w.heap.size + 2 ≤ g) wr d q)
  (he : ((((((wr.setCell ⟨w.heap.size + 1, 0, none⟩ (.int .i64 d.op)).setCell ⟨w.heap.size + 1, 1, none⟩ (.int .i64 d.lo)).setCell ⟨w.heap.size + 1, 2, none⟩ (.int .i64 d.hi)).setCell ⟨w.heap.size + 1, 3, none⟩ (.int .i64 d.mn)).setCell ⟨w.heap.size + 1, 4, none⟩ (.int .i64 d.mx)).setCell ⟨w.heap.size + 1, 5, none⟩ d.a) = w4) :
  BoxP (w.heap.size + 1) d w4 ∧ RdQ (fun g => N g ∨ w.heap.size ≤ g) w4 d q ∧ Below w.heap.size w w4 := by
 obtain ⟨b1, b2⟩ := h.ret.set he
 have ho := set6_other he
 exact ⟨b1, (hd.keep (fun x hx _ => ho x (by omega))).mono (fun g hg _ => by rcases hg with hg | hg; exact .inl hg.1; exact .inr (by omega)), h.bel.trans (b2.mono (by omega))⟩
end Go.Proofs.YtpkecepelcppiaaGreatDoor

namespace Go.Proofs.YtpkecepelcppiaaGreatDoor
open Go.RowKit
set_option maxRecDepth 100000
set_option maxHeartbeats 1000000

end Go.Proofs.YtpkecepelcppiaaGreatDoor
